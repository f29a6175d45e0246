/-
 Parts of the law, put together. Conditions: none.
-/
import Derived.Test.YtcnclhjhnjpeiaaGreatDoorZw1
set_option maxHeartbeats 4000000
set_option linter.unusedSimpArgs false
set_option linter.unusedVariables false
namespace Go.SX
structure Gt (α : Type) extends Rp α where
 ow : List Value → α → Hp → Prop
 owrd : ∀ {l : List Value} {x : α} {A : Hp}, ow l x A → rd A l x
 owp : ∀ {l : List Value} {x : α} {A A' : Hp}, ow l x A → A'.Perm A → ow l x A'
 one : ∀ {H : Hp} {l : List Value} {x : α}, rd H l x → allOne l = true
 pos : 0 < size
 cnt : α → Nat
 mark : Int → α → α
 cntV : α → Nat
 markV : Int → α → α
 sz : α → Nat
 w : Nat
 cnt_le : ∀ x, cnt x ≤ w * (1 + sz x)
 cntV_le : ∀ x, cntV x ≤ w * (1 + sz x)
def Fl.gt {α : Type} (f : Fl α) (mk : Int → α) (sz : α → Nat := fun _ => 0) : Gt α where
 toRp := f.rp
 ow l x A := l = f.enc x ∧ f.wf x ∧ A = []
 owrd h := ⟨h.1, h.2.1⟩
 owp h hp := ⟨h.1, h.2.1, by rw [h.2.2] at hp; exact hp.eq_nil⟩
 one h := by rw [h.1]; exact f.one _
 pos := f.pos
 cnt _ := 1
 mark k _ := mk k
 cntV _ := 0
 markV _ x := x
 sz := sz
 w := 1
 cnt_le x := by omega
 cntV_le x := by omega
abbrev RawC (s : Nat) : Type := { l : List Value // l.length = s ∧ allOne l = true }
def flRaw (s : Nat) (hs : 0 < s) : Fl (RawC s) := ⟨s, fun l => l.1, fun _ => True, fun l => l.2.1, fun l => l.2.2, hs⟩
section
variable {α : Type}
inductive OwL (g : Gt α) : List (RawC g.size) → List α → List Hp → Prop where
 | nil : OwL g [] [] []
 | cons {l : RawC g.size} {x : α} {A : Hp} {ls : List (RawC g.size)} {xs : List α} {As : List Hp} : g.ow l.1 x A → OwL g ls xs As → OwL g (l :: ls) (x :: xs) (A :: As)
theorem OwL.len {g : Gt α} {ls : List (RawC g.size)} {xs : List α} {As : List Hp} (h : OwL g ls xs As) : ls.length = xs.length ∧ As.length = xs.length := by
 induction h with
 | nil => exact ⟨rfl, rfl⟩
 | cons _ _ ih => simp [ih]
theorem OwL.get {g : Gt α} {ls : List (RawC g.size)} {xs : List α} {As : List Hp} (h : OwL g ls xs As) : ∀ (i : Nat) (h1 : i < xs.length) (h2 : i < ls.length) (h3 : i < As.length), g.ow (ls[i]).1 xs[i] As[i] := by
 induction h with
 | nil => intro i h1; simp at h1
 | cons h hr ih =>
  intro i h1 h2 h3
  cases i with
  | zero => exact h
  | succ i => exact ih i (by simpa using h1) (by simpa using h2) (by simpa using h3)
theorem OwL.append {g : Gt α} {ls ls' : List (RawC g.size)} {xs xs' : List α} {As As' : List Hp} (h : OwL g ls xs As) (h' : OwL g ls' xs' As') : OwL g (ls ++ ls') (xs ++ xs') (As ++ As') := by
 induction h with
 | nil => exact h'
 | cons h hr ih => exact .cons h ih
theorem OwL.set {g : Gt α} {ls : List (RawC g.size)} {xs : List α} {As : List Hp} (h : OwL g ls xs As) {l : RawC g.size} {y : α} {B : Hp} (hy : g.ow l.1 y B) : ∀ (i : Nat), OwL g (ls.set i l) (xs.set i y) (As.set i B) := by
 induction h with
 | nil => intro i; exact .nil
 | cons h hr ih =>
  intro i
  cases i with
  | zero => exact .cons hy hr
  | succ i => exact .cons h (ih i)
theorem OwL.take {g : Gt α} {ls : List (RawC g.size)} {xs : List α} {As : List Hp} (h : OwL g ls xs As) : ∀ (i : Nat), OwL g (ls.take i) (xs.take i) (As.take i) := by
 induction h with
 | nil => intro i; simp; exact .nil
 | cons h hr ih =>
  intro i
  cases i with
  | zero => exact .nil
  | succ i => exact .cons h (ih i)
theorem OwL.rep {g : Gt α} {l : RawC g.size} {z : α} (hz : g.ow l.1 z []) : ∀ n, OwL g (List.replicate n l) (List.replicate n z) (List.replicate n [])
 | 0 => .nil
 | n + 1 => .cons hz (OwL.rep hz n)
def mkL (g : Gt α) : Int → List α → List α
 | _, [] => []
 | k, x :: r => g.mark k x :: mkL g (k + g.cnt x) r
def cntL (g : Gt α) : List α → Nat
 | [] => 0
 | x :: r => g.cnt x + cntL g r
theorem mkL_len (g : Gt α) : ∀ (xs : List α) (k : Int), (mkL g k xs).length = xs.length
 | [], _ => rfl
 | x :: r, k => by simp [mkL, mkL_len g r]
theorem cntL_append (g : Gt α) : ∀ (xs ys : List α), cntL g (xs ++ ys) = cntL g xs + cntL g ys
 | [], ys => by simp [cntL]
 | x :: r, ys => by simp [cntL, cntL_append g r]; omega
theorem mkL_append (g : Gt α) : ∀ (xs ys : List α) (k : Int), mkL g k (xs ++ ys) = mkL g k xs ++ mkL g (k + cntL g xs) ys
 | [], ys, k => by simp [mkL, cntL]
 | x :: r, ys, k => by simp [mkL, mkL_append g r, cntL, Int.add_assoc]
def szL (g : Gt α) : List α → Nat
 | [] => 0
 | x :: r => 1 + g.sz x + szL g r
theorem len_szL (g : Gt α) : ∀ (xs : List α), xs.length ≤ szL g xs
 | [] => Nat.le_refl _
 | x :: r => by have := len_szL g r; simp only [szL, List.length_cons]; omega
theorem cntL_le (g : Gt α) : ∀ (xs : List α), cntL g xs ≤ g.w * szL g xs
 | [] => by simp [cntL]
 | x :: r => by
  have h1 := g.cnt_le x
  have h2 := cntL_le g r
  simp only [cntL, szL]
  rw [Nat.mul_add g.w (1 + g.sz x) (szL g r)]
  omega
theorem flat_lists (As : List Hp) (i : Nat) (hi : i < As.length) : As.flatten.Perm (As[i] ++ (As.set i []).flatten) := by
 induction As generalizing i with
 | nil => simp at hi
 | cons A r ih =>
  cases i with
  | zero => simp
  | succ i =>
   have h := ih i (by simpa using hi)
   simp only [List.flatten_cons, List.getElem_cons_succ, List.set_cons_succ]
   refine (h.append_left A).trans ?_
   rw [← List.append_assoc, ← List.append_assoc]
   exact List.perm_append_comm.append_right _
def gSl (T : TypeId) (g : Gt α) : Gt (List α) where
 toRp := rpSl g.toRp
 ow l xs A := ∃ v ls A0 As, l = [v] ∧ Ow (flRaw g.size g.pos) T v ls A0 ∧ A.Perm (A0 ++ As.flatten) ∧ OwL g ls xs As
 owrd := by
  rintro l xs A ⟨v, ls, A0, As, rfl, ho, hp, hl⟩
  obtain ⟨base, cap, e, h1, h2⟩ := ho.rd
  obtain ⟨e1, e2⟩ := hl.len
  refine ⟨base, cap, by rw [← e1]; exact e, by rw [← e1]; exact h1, fun i hi => ?_⟩
  obtain ⟨b, o, l', h3, h4, h5⟩ := h2 i (by rw [e1]; exact hi)
  have hsub : ∀ p ∈ A0, p ∈ A := fun p hp' => hp.mem_iff.2 (List.mem_append_left _ hp')
  refine ⟨b, o, l', h3, h4.mono hsub, ?_⟩
  have h6 : l' = (ls[i]'(by rw [e1]; exact hi)).1 := h5.1
  rw [h6]
  refine g.mono (fun p hp' => hp.mem_iff.2 (List.mem_append_right _ ?_)) (g.owrd (hl.get i hi (by rw [e1]; exact hi) (by rw [e2]; exact hi)))
  exact List.mem_flatten.2 ⟨_, List.getElem_mem _, hp'⟩
 owp := by
  rintro l xs A A' ⟨v, ls, A0, As, rfl, ho, hp, hl⟩ h'
  exact ⟨v, ls, A0, As, rfl, ho, h'.trans hp, hl⟩
 one := by
  rintro H l xs ⟨_, _, rfl, _⟩; rfl
 pos := by show 0 < 1; omega
 cnt := cntL g
 mark := mkL g
 cntV := cntL g
 markV := mkL g
 sz := szL g
 w := g.w
 cnt_le xs := Nat.le_trans (cntL_le g xs) (Nat.mul_le_mul_left _ (by omega))
 cntV_le xs := Nat.le_trans (cntL_le g xs) (Nat.mul_le_mul_left _ (by omega))
theorem sl_rd {T : TypeId} {g : Gt α} {H : Hp} {l : List Value} {xs : List α} (h : (gSl T g).rd H l xs) : ∃ b c, l = [.slice b xs.length c] ∧ (gSl T g).rd H [.slice b xs.length c] xs := by
 obtain ⟨b, c, rfl, h1, h2⟩ := h
 exact ⟨b, c, rfl, b, c, rfl, h1, h2⟩
theorem sl_ow {T : TypeId} {g : Gt α} {A : Hp} {l : List Value} {xs : List α} (h : (gSl T g).ow l xs A) : ∃ b c, l = [.slice b xs.length c] ∧ (gSl T g).ow [.slice b xs.length c] xs A := by
 obtain ⟨b, c, rfl, h1, h2⟩ := (gSl T g).owrd h
 exact ⟨b, c, rfl, h⟩
theorem sl_len {T : TypeId} {g : Gt α} {H : Hp} {b : Option Addr} {m c : Nat} {xs : List α} (h : (gSl T g).rd H [.slice b m c] xs) : m = xs.length ∧ xs.length ≤ c ∧ xs.length ≤ 9223372036854775807 := by
 obtain ⟨b, c, e, h1, h2⟩ := h; cases e; exact ⟨rfl, h1⟩
theorem sl_nil (T : TypeId) (g : Gt α) (b : Option Addr) : (gSl T g).ow [.slice b 0 0] [] [] := ⟨_, [], [], [], rfl, Ow.nil _ _, by simp, .nil⟩
theorem fl_ow {f : Fl α} {mk : Int → α} {sz : α → Nat} {T : TypeId} {v : Value} {xs : List α} {A : Hp} (h : (gSl T (f.gt mk sz)).ow [v] xs A) : Ow f T v xs A := by
 obtain ⟨v', ls, A0, As, e, ho, hp, hl⟩ := h
 cases e
 have hA : ∀ {ls : List (RawC (f.gt mk sz).size)} {xs : List α} {As : List Hp}, OwL (f.gt mk sz) ls xs As → As.flatten = [] ∧ (∀ x ∈ xs, f.wf x) ∧ ls.flatMap (flRaw (f.gt mk sz).size (f.gt mk sz).pos).enc = xs.flatMap f.enc := by
  intro ls xs As h
  induction h with
  | nil => exact ⟨rfl, (fun _ h => by cases h), rfl⟩
  | cons h hr ih =>
   obtain ⟨h1, h2, h3⟩ := h
   refine ⟨by rw [List.flatten_cons, h3, ih.1]; rfl, ?_, ?_⟩
   ·intro y hy
    rcases List.mem_cons.1 hy with rfl | hy
    ·exact h2
    exact ih.2.1 y hy
   rw [List.flatMap_cons, List.flatMap_cons, ih.2.2]; congr 1
 obtain ⟨h1, h2, h3⟩ := hA hl
 rw [h1, List.append_nil] at hp
 obtain ⟨e1, _⟩ := hl.len
 obtain ⟨_, g1, base, cap, e, g2⟩ := ho
 rw [e1] at g1 e
 refine ⟨h2, g1, base, cap, e, ?_⟩
 rcases g2 with ⟨rfl, rfl, rfl⟩ | ⟨b, sp, g3, rfl, g4, g5⟩
 ·have : xs = [] := by cases hl; rfl
  exact .inl ⟨rfl, this, hp.eq_nil⟩
 refine .inr ⟨b, sp, g3, ?_, by rw [← e1]; exact g4, by rw [← e1]; exact g5⟩
 rw [← h3]
 exact List.perm_singleton.1 hp
theorem ow_fl {f : Fl α} {mk : Int → α} {sz : α → Nat} {T : TypeId} {v : Value} {xs : List α} {A : Hp} (h : Ow f T v xs A) : (gSl T (f.gt mk sz)).ow [v] xs A := by
 obtain ⟨h1, h2, base, cap, rfl, h3⟩ := h
 have key : ∀ (xs : List α), (∀ x ∈ xs, f.wf x) → ∃ ls As, OwL (f.gt mk sz) ls xs As ∧ As.flatten = [] ∧ ls.flatMap (flRaw (f.gt mk sz).size (f.gt mk sz).pos).enc = xs.flatMap f.enc := by
  intro xs
  induction xs with
  | nil => intro _; exact ⟨[], [], .nil, rfl, rfl⟩
  | cons x r ih =>
   intro hw
   obtain ⟨ls, As, g1, g2, g3⟩ := ih (fun y hy => hw y (List.mem_cons_of_mem _ hy))
   refine ⟨⟨f.enc x, f.len x, f.one x⟩ :: ls, [] :: As, .cons ⟨rfl, hw x (List.mem_cons_self ..), rfl⟩ g1, by rw [List.flatten_cons, g2]; rfl, ?_⟩
   exact congrArg (fun q => f.enc x ++ q) g3
 obtain ⟨ls, As, g1, g2, g3⟩ := key xs h1
 obtain ⟨e1, _⟩ := g1.len
 refine ⟨_, ls, A, As, rfl, ⟨fun _ _ => trivial, by rw [e1]; exact h2, base, cap, by rw [e1], ?_⟩, by rw [g2, List.append_nil], g1⟩
 rcases h3 with ⟨rfl, rfl, rfl⟩ | ⟨b, sp, h4, rfl, h5, h6⟩
 ·have : ls = [] := by cases g1; rfl
  exact .inl ⟨rfl, this, rfl⟩
 exact .inr ⟨b, sp, h4, by rw [g3], by rw [e1]; exact h5, by rw [e1]; exact h6⟩
end
def gPair {α β : Type} (g : Gt α) (h : Gt β) : Gt (α × β) where
 size := g.size + h.size
 rd H l x := ∃ l1 l2, l = l1 ++ l2 ∧ g.rd H l1 x.1 ∧ h.rd H l2 x.2
 mono hh := by rintro ⟨l1, l2, e, h1, h2⟩; exact ⟨l1, l2, e, g.mono hh h1, h.mono hh h2⟩
 len := by rintro H l x ⟨l1, l2, rfl, h1, h2⟩; rw [List.length_append, g.len h1, h.len h2]
 ow l x A := ∃ l1 l2 A1 A2, l = l1 ++ l2 ∧ A.Perm (A1 ++ A2) ∧ g.ow l1 x.1 A1 ∧ h.ow l2 x.2 A2
 owrd := by
  rintro l x A ⟨l1, l2, A1, A2, rfl, hp, h1, h2⟩
  exact ⟨l1, l2, rfl, g.mono (fun p hp' => hp.mem_iff.2 (List.mem_append_left _ hp')) (g.owrd h1), h.mono (fun p hp' => hp.mem_iff.2 (List.mem_append_right _ hp')) (h.owrd h2)⟩
 owp := by
  rintro l x A A' ⟨l1, l2, A1, A2, rfl, hp, h1, h2⟩ h'
  exact ⟨l1, l2, A1, A2, rfl, h'.trans hp, h1, h2⟩
 one := by rintro H l x ⟨l1, l2, rfl, h1, h2⟩; exact allOne_append _ _ (g.one h1) (h.one h2)
 pos := by have := g.pos; omega
 cnt x := g.cnt x.1 + h.cnt x.2
 mark k x := (g.mark k x.1, h.mark (k + g.cnt x.1) x.2)
 cntV x := g.cntV x.1 + h.cntV x.2
 markV k x := (g.markV k x.1, h.markV (k + g.cntV x.1) x.2)
 sz x := g.sz x.1 + h.sz x.2
 w := g.w + h.w
 cnt_le x := Nat.le_trans (Nat.add_le_add (g.cnt_le x.1) (h.cnt_le x.2)) (by
  rw [Nat.add_mul]; exact Nat.add_le_add (Nat.mul_le_mul_left _ (by omega)) (Nat.mul_le_mul_left _ (by omega)))
 cntV_le x := Nat.le_trans (Nat.add_le_add (g.cntV_le x.1) (h.cntV_le x.2)) (by
  rw [Nat.add_mul]; exact Nat.add_le_add (Nat.mul_le_mul_left _ (by omega)) (Nat.mul_le_mul_left _ (by omega)))
def gIso {α β : Type} (g : Gt α) (f : β → α) (f' : α → β) : Gt β where
 size := g.size
 rd H l x := g.rd H l (f x)
 mono hh h := g.mono hh h
 len h := g.len h
 ow l x A := g.ow l (f x) A
 owrd h := g.owrd h
 owp h hp := g.owp h hp
 one h := g.one h
 pos := g.pos
 cnt x := g.cnt (f x)
 mark k x := f' (g.mark k (f x))
 cntV x := g.cntV (f x)
 markV k x := f' (g.markV k (f x))
 sz x := g.sz (f x)
 w := g.w
 cnt_le x := g.cnt_le (f x)
 cntV_le x := g.cntV_le (f x)
section
variable {α : Type} {g : Gt α} {T : TypeId}
theorem set_split {β : Type} (ls : List β) (i : Nat) (q : β) (h : i < ls.length) : ls.set i q = ls.take i ++ q :: ls.drop (i + 1) := by
 rw [List.set_eq_take_append_cons_drop, if_pos h]
theorem raw_of {H : Hp} {l : List Value} {x : α} (h : g.rd H l x) : l.length = g.size ∧ allOne l = true := ⟨g.len h, g.one h⟩
theorem gopen {base : Option Addr} {m cap : Nat} {xs : List α} {A : Hp} (h : (gSl T g).ow [.slice base m cap] xs A) (i : Nat) (hi : i < xs.length) :
  ∃ lx Ax rest b o, base = some ⟨b, o, none⟩ ∧ A.Perm (Ax ++ rest) ∧ g.ow lx xs[i] Ax ∧ RdCells rest b (o + i * g.size) g.size lx ∧ ∀ y Ay A', g.ow lx y Ay → A'.Perm (Ay ++ rest) → (gSl T g).ow [.slice base m cap] (xs.set i y) A' := by
 obtain ⟨v, ls, A0, As, e, ho, hp, hl⟩ := h
 cases e
 obtain ⟨e1, e2⟩ := hl.len
 have h0 := hl.get i hi (by omega) (by omega)
 obtain ⟨base', cap', ee, _, hrd⟩ := ho.rd
 cases ee
 obtain ⟨b, o, l', k1, k2, k3, _⟩ := hrd i (by omega)
 have k3 : l' = (ls[i]'(by omega)).1 := k3
 refine ⟨(ls[i]'(by omega)).1, As[i]'(by omega), A0 ++ (As.set i []).flatten, b, o, k1, ?_, h0, ?_, ?_⟩
 ·refine hp.trans (((flat_lists As i (by omega)).append_left A0).trans ?_)
  rw [← List.append_assoc, ← List.append_assoc]
  exact List.perm_append_comm.append_right _
 ·rw [← k3]; exact k2.mono fun p hp' => List.mem_append_left _ hp'
 intro y Ay A' hy hA'
 refine ⟨_, ls, A0, As.set i Ay, rfl, ho, ?_, ?_⟩
 ·refine hA'.trans ?_
  have h1 := flat_lists (As.set i Ay) i (by simpa using (by omega : i < As.length))
  simp only [List.getElem_set_self, List.set_set] at h1
  have h2 := h1.append_left A0
  refine List.Perm.trans ?_ h2.symm
  rw [← List.append_assoc, ← List.append_assoc]
  exact List.perm_append_comm.append_right _
 have := hl.set (l := ls[i]'(by omega)) (y := y) (B := Ay) hy i
 rw [List.set_getElem_self] at this
 exact this
theorem gstore {R : List Hp} {A : Hp} {base : Option Addr} {m cap : Nat} {xs : List α} {i : Int} {b o off : Nat} {l : List Value} {F : List Hp → Prop} (n : Nat) (hn : nthR R n = some A) (h : (gSl T g).ow [.slice base m cap] xs A)
  (h0 : 0 ≤ i) (h1 : i < xs.length) (hb : base = some ⟨b, o, none⟩) (d : Nat) (hoff : off = o + i.toNat * g.size + d) (y : α)
  (hy : ∀ lx Ax, g.ow lx (xs[i.toNat]'(by omega)) Ax → d + l.length ≤ g.size ∧ ∃ Ay, g.ow (setAt lx d l) y Ay ∧ Ax.Perm Ay)
  (k : ∀ A', A'.length = A.length → (gSl T g).ow [.slice base m cap] (xs.set i.toNat y) A' → F (setR R n A')) : VCstore R b off l F := by
 obtain ⟨v, ls, A0, As, e, ho, hp, hl⟩ := h
 cases e
 obtain ⟨e1, e2⟩ := hl.len
 have hi : i.toNat < xs.length := by omega
 have g0 := hl.get i.toNat hi (by omega) (by omega)
 obtain ⟨hd, Ay, hoy, hperm⟩ := hy _ _ g0
 subst hoff
 obtain ⟨hw, hlen, base', cap', e, h2⟩ := ho
 cases e
 rcases h2 with ⟨rfl, rfl, rfl⟩ | ⟨b', sp, h3, rfl, h4, h5⟩
 ·simp at e1; omega
 rw [hb] at h3; cases h3
 have hmem : (b, Obj.cells ⟨ls.flatMap (flRaw g.size g.pos).enc ++ sp⟩ T) ∈ A := hp.mem_iff.2 (List.mem_append_left _ (List.mem_singleton.2 rfl))
 obtain ⟨s, t, hst⟩ := List.append_of_mem hmem
 obtain ⟨pre, post, h6, h7⟩ := nthR_split hn
 have hoyr := raw_of (g.owrd hoy)
 have hsl : setAt (ls.flatMap (flRaw g.size g.pos).enc ++ sp) (i.toNat * g.size + d) l = (ls.set i.toNat ⟨setAt (ls[i.toNat]'(by omega)).1 d l, hoyr⟩).flatMap (flRaw g.size g.pos).enc ++ sp := by
  have e3 : ls.flatMap (flRaw g.size g.pos).enc = (ls.take i.toNat).flatMap (flRaw g.size g.pos).enc ++ ((ls[i.toNat]'(by omega)).1 ++ (ls.drop (i.toNat + 1)).flatMap (flRaw g.size g.pos).enc) := by
   conv => lhs; rw [← List.take_append_drop i.toNat ls, List.drop_eq_getElem_cons (by omega : i.toNat < ls.length)]
   rw [List.flatMap_append, List.flatMap_cons]; rfl
  have e4 : ((ls.take i.toNat).flatMap (flRaw g.size g.pos).enc).length = i.toNat * g.size := by
   rw [flat_length, List.length_take, Nat.min_eq_left (by omega)]; rfl
  have e5 : (ls[i.toNat]'(by omega)).1.length = g.size := (ls[i.toNat]'(by omega)).2.1
  have e6 : (ls.set i.toNat ⟨setAt (ls[i.toNat]'(by omega)).1 d l, hoyr⟩).flatMap (flRaw g.size g.pos).enc = (ls.take i.toNat).flatMap (flRaw g.size g.pos).enc ++ (setAt (ls[i.toNat]'(by omega)).1 d l ++ (ls.drop (i.toNat + 1)).flatMap (flRaw g.size g.pos).enc) := by
   rw [set_split _ _ _ (by omega), List.flatMap_append, List.flatMap_cons]; rfl
  rw [e6, e3]
  have gen : ∀ (P0 C Q : List Value), P0.length = i.toNat * g.size → d + l.length ≤ C.length → setAt (P0 ++ (C ++ Q) ++ sp) (i.toNat * g.size + d) l = P0 ++ (setAt C d l ++ Q) ++ sp := by
   intro P0 C Q hP hC
   rw [setAt_eq _ _ _ (by simp only [List.length_append]; omega), setAt_eq _ _ _ hC]
   simp only [List.append_assoc]
   rw [List.take_append, List.drop_append, List.take_of_length_le (by omega), List.drop_eq_nil_of_le (by omega : P0.length ≤ i.toNat * g.size + d + l.length)]
   rw [show i.toNat * g.size + d - P0.length = d by omega, show i.toNat * g.size + d + l.length - P0.length = d + l.length by omega]
   rw [List.take_append_of_le_length (by omega), List.drop_append_of_le_length (by omega)]
   simp only [List.append_assoc, List.nil_append]
  exact gen _ _ _ e4 (by rw [e5]; exact hd)
 refine .intro (setR R n (s ++ (b, Obj.cells ⟨(ls.set i.toNat ⟨setAt (ls[i.toNat]'(by omega)).1 d l, hoyr⟩).flatMap (flRaw g.size g.pos).enc ++ sp⟩ T) :: t)) ?_ (k _ (by rw [hst]; simp) ⟨_, ls.set i.toNat ⟨setAt (ls[i.toNat]'(by omega)).1 d l, hoyr⟩, [(b, Obj.cells ⟨(ls.set i.toNat ⟨setAt (ls[i.toNat]'(by omega)).1 d l, hoyr⟩).flatMap (flRaw g.size g.pos).enc ++ sp⟩ T)], As.set i.toNat Ay, rfl, ⟨fun _ _ => trivial, by simpa using hlen, some ⟨b, 0, none⟩, cap, by rw [hb, List.length_set], .inr ⟨b, sp, rfl, rfl, by simpa using h4, by simpa using h5⟩⟩, ?_, hl.set hoy i.toNat⟩)
 ·refine ⟨pre, post, s, t, ⟨ls.flatMap (flRaw g.size g.pos).enc ++ sp⟩, T, by rw [h6, hst], ?_, ?_⟩
  ·show 0 + i.toNat * g.size + d + l.length ≤ (ls.flatMap (flRaw g.size g.pos).enc ++ sp).length
   rw [List.length_append, flat_length]
   have : (flRaw g.size g.pos).size = g.size := rfl
   rw [this]
   have := Nat.mul_le_mul_right g.size (show i.toNat + 1 ≤ ls.length by omega)
   rw [Nat.succ_mul] at this; omega
  rw [h7]
  simp only [Nat.zero_add]
  rw [hsl]
 rw [hst] at hp
 have h8 : (s ++ t).Perm As.flatten := by
  have := (List.perm_middle (a := (b, Obj.cells ⟨ls.flatMap (flRaw g.size g.pos).enc ++ sp⟩ T)) (l₁ := s) (l₂ := t)).symm.trans hp
  exact (List.perm_cons _).1 this
 have h9 : As.flatten.Perm (As.set i.toNat Ay).flatten := by
  have q1 := flat_lists As i.toNat (by omega)
  have q2 := flat_lists (As.set i.toNat Ay) i.toNat (by simpa using (by omega : i.toNat < As.length))
  simp only [List.getElem_set_self, List.set_set] at q2
  exact q1.trans ((hperm.append_right _).trans q2.symm)
 refine List.perm_middle.trans ?_
 exact List.Perm.cons _ (h8.trans h9)
end
end Go.SX
namespace Go.SX
section
variable {P : Program} {E : World} {Γ : Ty} {n : Nat} {α : Type} {g : Gt α} {T : TypeId}
theorem VCraw.conv {o : Oper} {fr : Fr} {bl : List Blk} {R R2 : List Hp} {K : St → Prop} (h0 : RLe R R2)
  (h : VCraw P E n o ⟨fr, bl, R2⟩ (fun st => ∃ R', RLe st.R R' ∧ K ⟨st.fr, st.bl, R'⟩)) : VCraw P E n o ⟨fr, bl, R⟩ K := by
 obtain ⟨h⟩ := h
 refine ⟨fun a w hr Q => ?_⟩
 refine Oper.wp_next (h a w (hr.repart h0) Q) ?_
 rintro a' w' ⟨st, h1, R', h2, h3⟩
 obtain ⟨fr', bl', R''⟩ := st
 exact ⟨_, h1.repart h2, h3⟩
theorem lit_rd {f : Fl α} {b : Nat} {l : List Value} {y : α} {T' : TypeId} {H : Hp} (hm : (b, Obj.cells ⟨l⟩ T') ∈ H) (hl : l = f.enc y) (hy : f.wf y) : (rpSl f.rp).rd H [.slice (some ⟨b, 0, none⟩) 1 1] [y] := by
 subst hl
 refine ⟨some ⟨b, 0, none⟩, 1, rfl, by simp, fun i hi => ?_⟩
 have : i = 0 := by simpa using hi
 subst this
 refine ⟨b, 0, f.enc y, rfl, ⟨f.len y, _, _, _, hm, fun j hj => ?_⟩, rfl, hy⟩
 simp
theorem putK_mono {fr : Fr} {dst : Option Nat} {s : SV} {K K' : Fr → Prop} (h : putK n fr dst s K) (hk : ∀ fr, K fr → K' fr) : putK n fr dst s K' := by
 unfold putK at h ⊢
 split at h
 ·exact hk _ h
 split at h
 ·exact hk _ h
 exact h.elim
theorem gappend1 (hΓ : TyOk P Γ) {dst : Option Nat} {s x : Operand} {sT xT e2 ty : TypeId} {pos : String} {after : Array Edge} {guard : Option (Nat × Bool)} {fr : Fr} {bl : List Blk} {R : List Hp} {K : St → Prop} {ti : TI}
  (A B : Hp) (Rr : List Hp) {base : Option Addr} {xb m cap : Nat} {xs : List α} {l : List Value} {y : α} {T' : TypeId} (hR : RLe R (A :: B :: Rr)) (ho : (gSl T g).ow [.slice base m cap] xs A) (hB : g.ow l y B)
  (hlit : [(xb, Obj.cells ⟨l⟩ T')] ∈ R)
  (hs1 : getK fr s fun sv => sv = .v (.slice base m cap)) (hx1 : getK fr x fun sv => sv = .v (.slice (some ⟨xb, 0, none⟩) 1 1))
  (hsT : undOf Γ sT = some (.slice T)) (hxT : undOf Γ xT = some (.slice e2)) (ht : tyOf Γ T = some ti) (hsz : ti.size = g.size) (hz : lenIs ti.zero.cells.toList g.size = true)
  (hby : Nat.ble ti.bytes 65536 = true) (hlen : xs.length + 1 ≤ 1073741824)
  (hk : ∀ base' cap' A', (gSl T g).ow [.slice base' (xs ++ [y]).length cap'] (xs ++ [y]) A' → putK n fr dst (.v (.slice base' (xs ++ [y]).length cap')) fun fr => K ⟨fr, bl, A' :: Rr⟩) :
  VCraw P E n ⟨dst, .call ⟨.builtin .append, #[s, x], #[sT, xT]⟩, ty, pos, after, guard⟩ ⟨fr, bl, R⟩ K := by
 have e0 : (xs ++ [y]).length = xs.length + 1 := by simp
 simp only [e0] at hk
 obtain ⟨v, ls, A0, As, e, ho, hp, hl⟩ := ho
 cases e
 obtain ⟨L, hL⟩ := hR
 obtain ⟨e1, e2'⟩ := hl.len
 have hm : m = ls.length := (by obtain ⟨_, _, _, _, e, _⟩ := ho; cases e; rfl)
 subst hm
 have hraw := raw_of (g.owrd hB)
 have hperm : R.flatten.Perm (A0 ++ (As.flatten ++ (B ++ (Rr.flatten ++ L)))) := by
  refine hL.trans ?_
  simp only [List.flatten_cons]
  have := hp.append_right (B ++ (Rr.flatten ++ L))
  simpa only [List.append_assoc] using this
 refine VCraw.conv (R2 := [A0, As.flatten ++ (B ++ (Rr.flatten ++ L))]) ⟨[], by simpa using hperm⟩ ?_
 have hmem : (xb, Obj.cells ⟨l⟩ T') ∈ St.hall ⟨[], bl, [A0, As.flatten ++ (B ++ (Rr.flatten ++ L))]⟩ := by
  have h1 : (xb, Obj.cells ⟨l⟩ T') ∈ R.flatten := List.mem_flatten.2 ⟨_, hlit, List.mem_singleton.2 rfl⟩
  have h2 := hperm.mem_iff.1 h1
  simp only [St.hall, List.flatten_cons, List.flatten_nil, List.append_nil]
  exact List.mem_append_right _ h2
 have hx : (rpSl (flRaw g.size g.pos).rp).rd (St.hall ⟨[], bl, [A0, As.flatten ++ (B ++ (Rr.flatten ++ L))]⟩) [.slice (some ⟨xb, 0, none⟩) 1 1] [⟨l, hraw⟩] := lit_rd (f := flRaw g.size g.pos) hmem rfl trivial
 refine append_ow (f := flRaw g.size g.pos) hΓ 0 rfl ho hx (fun _ _ => trivial) hs1 hx1 hsT hxT ht hsz hz hby (by rw [e1]; exact hlen) ?_
 intro base' cap' A' ho' _
 have h3 : (gSl T g).ow [.slice base' (xs.length + 1) cap'] (xs ++ [y]) (A' ++ (As ++ [B]).flatten) := by
  refine ⟨_, ls ++ [⟨l, hraw⟩], A', As ++ [B], rfl, ?_, .refl _, hl.append (.cons hB .nil)⟩
  rw [← e1]; exact ho'
 have h4 := hk base' cap' _ h3
 have e3 : ls.length + [(⟨l, hraw⟩ : RawC g.size)].length = xs.length + 1 := by rw [e1]; rfl
 rw [e3]
 refine putK_mono h4 fun fr' hK => ⟨_, ?_, hK⟩
 refine ⟨L, ?_⟩
 simp only [setR, List.flatten_cons, List.flatten_nil, List.append_nil, List.flatten_append]
 simp only [List.append_assoc]
 exact .refl _
open Classical in
theorem gstore1 {R : List Hp} (A B : Hp) (Rr : List Hp) {base : Option Addr} {m cap : Nat} {xs : List α} {i : Int} {b o off : Nat} {l : List Value} {F : List Hp → Prop} (hR : RLe R (A :: B :: Rr)) (h : (gSl T g).ow [.slice base m cap] xs A)
  (h0 : 0 ≤ i) (h1 : i < xs.length) (hb : base = some ⟨b, o, none⟩) (hoff : off = o + i.toNat * g.size) (y : α) (hy : g.ow l y B)
  (k : ∀ A', (gSl T g).ow [.slice base m cap] (xs.set i.toNat y) A' → F (A' :: Rr)) : VCstore R b off l F := by
 obtain ⟨v, ls, A0, As, e, ho, hp, hl⟩ := h
 cases e
 obtain ⟨L, hL⟩ := hR
 obtain ⟨e1, e2⟩ := hl.len
 have hraw := raw_of (g.owrd hy)
 obtain ⟨hw, hlen, base', cap', e, h2⟩ := ho
 cases e
 rcases h2 with ⟨rfl, rfl, rfl⟩ | ⟨b', sp, h3, rfl, h4, h5⟩
 ·simp at e1; omega
 rw [hb] at h3; cases h3
 subst hoff
 have hset := flat_set (flRaw g.size g.pos) ls i.toNat ⟨l, hraw⟩ sp (by omega)
 refine .part ([[(b, Obj.cells ⟨ls.flatMap (flRaw g.size g.pos).enc ++ sp⟩ T)], As.flatten ++ (B ++ (Rr.flatten ++ L))]) ([[(b, Obj.cells ⟨(ls.set i.toNat ⟨l, hraw⟩).flatMap (flRaw g.size g.pos).enc ++ sp⟩ T)], As.flatten ++ (B ++ (Rr.flatten ++ L))])
  (([(b, Obj.cells ⟨(ls.set i.toNat ⟨l, hraw⟩).flatMap (flRaw g.size g.pos).enc ++ sp⟩ T)] ++ (As.set i.toNat B).flatten) :: Rr) ?_ ?_ ?_ (k _ ⟨_, ls.set i.toNat ⟨l, hraw⟩, [(b, Obj.cells ⟨(ls.set i.toNat ⟨l, hraw⟩).flatMap (flRaw g.size g.pos).enc ++ sp⟩ T)], As.set i.toNat B, rfl, ⟨fun _ _ => trivial, by simpa using hlen, some ⟨b, 0, none⟩, cap, by rw [hb, List.length_set], .inr ⟨b, sp, rfl, rfl, by simpa using h4, by simpa using h5⟩⟩, .refl _, hl.set hy i.toNat⟩)
 ·refine ⟨[], ?_⟩
  refine hL.trans ?_
  simp only [List.flatten_cons, List.flatten_nil, List.append_nil]
  have := hp.append_right (B ++ (Rr.flatten ++ L))
  simpa only [List.append_assoc] using this
 ·refine ⟨[], [As.flatten ++ (B ++ (Rr.flatten ++ L))], [], [], ⟨ls.flatMap (flRaw g.size g.pos).enc ++ sp⟩, T, rfl, ?_, ?_⟩
  ·show 0 + i.toNat * g.size + l.length ≤ (ls.flatMap (flRaw g.size g.pos).enc ++ sp).length
   rw [List.length_append, flat_length, hraw.1]
   have : (flRaw g.size g.pos).size = g.size := rfl
   rw [this]
   have := Nat.mul_le_mul_right g.size (show i.toNat + 1 ≤ ls.length by omega)
   rw [Nat.succ_mul] at this; omega
  simp only [List.nil_append, Nat.zero_add]
  have hset' : setAt (ls.flatMap (flRaw g.size g.pos).enc ++ sp) (i.toNat * g.size) l = (ls.set i.toNat ⟨l, hraw⟩).flatMap (flRaw g.size g.pos).enc ++ sp := hset
  rw [hset']
 have q1 := flat_lists As i.toNat (by omega)
 have q2 := flat_lists (As.set i.toNat B) i.toNat (by simpa using (by omega : i.toNat < As.length))
 simp only [List.getElem_set_self, List.set_set] at q2
 refine ⟨As[i.toNat]'(by omega) ++ L, ?_⟩
 refine perm_cnt fun a => ?_
 have c1 := q1.count_eq a
 have c2 := q2.count_eq a
 simp only [List.count_append] at c1 c2
 simp only [List.flatten_cons, List.flatten_nil, List.append_nil, List.count_append]
 omega
theorem sl_eq {b : Option Addr} {m m' c : Nat} (h : m = m') : Value.slice b m c = Value.slice b m' c := by rw [h]
theorem gmake {z : α} {lz : List Value} {b k c : Nat} (hz : g.ow lz z []) (hn : k ≤ c) (hc : c ≤ 281474976710656) : (gSl T g).ow [.slice (some ⟨b, 0, none⟩) k c] (List.replicate k z) [(b, Obj.cells ⟨zeros c lz⟩ T)] :=
 ⟨_, List.replicate k ⟨lz, raw_of (g.owrd hz)⟩, _, List.replicate k [], rfl, Ow.make (f := flRaw g.size g.pos) (z := ⟨lz, raw_of (g.owrd hz)⟩) trivial hn hc, by simp; rfl, OwL.rep hz k⟩
end
def gI : Gt Int := flInt.gt fun k => k
def gB : Gt Bool := flBool.gt fun k => k.tmod 3 == 0
def gY : Gt UInt8 := flByte.gt fun k => UInt8.ofNat (k % 256).toNat
theorem gI_ow {x : Int} (h : okI x) : gI.ow [.int .i64 x] x [] := ⟨rfl, h, rfl⟩
theorem gB_ow {x : Bool} (_ : True) : gB.ow [.bool x] x [] := ⟨rfl, trivial, rfl⟩
theorem gY_ow {x : UInt8} (_ : True) : gY.ow [.int .u8 x.toNat] x [] := ⟨rfl, trivial, rfl⟩
theorem wrap_of {x : Int} (h1 : -9223372036854775808 ≤ x) (h2 : x ≤ 9223372036854775807) : IntKind.i64.wrap x = x := wrap_ok ⟨h1, h2⟩
theorem okI_wrap (x : Int) : okI (IntKind.i64.wrap x) := by
 unfold okI IntKind.wrap
 simp only [IntKind.bits, IntKind.signed]
 simp only [Bool.true_and, decide_eq_true_eq, ge_iff_le]
 split <;> omega
end Go.SX
namespace Go.SX
theorem frI {p : Prop} (h : p := by repeat' (first | exact trivial | refine ⟨⟨_, rfl, by first | rfl | exact inc_eq _ (by omega) | (refine sl_eq ?_; simp; done), by first | exact trivial | simp [SV.ok]⟩, ?_⟩)) : p := h
theorem rlA {p : Prop} (h : p := by exact .le fun a => by (try simp only [setR, List.cons_append, List.nil_append]); simp only [List.flatten_append, List.flatten_cons, List.flatten_nil, List.count_append, List.count_nil, List.append_nil, List.nil_append]; omega) : p := h
theorem rlB {p : Prop} (h : p := by exact .le fun a => by (try simp only [setR, List.cons_append, List.nil_append]); simp [List.count_cons, Blk.ent, idOf]; try omega) : p := h
theorem woI {p : Prop} (h : p := by (try simp (disch := omega) only [wrap_of] at *); omega) : p := h
end Go.SX
namespace Go.SX
def CtR (P : Program) (f : FuncId) (args : List Value) (A0 : Hp) (pre : Hp → Prop) (post : Value → Hp → Prop) : Prop :=
 (∃ fn, P.funcs[f]? = some fn ∧ fn.name ≠ "runtime.NumGoroutine" ∧ fn.body.isSome = true) ∧
 ∀ E H w, Sat E (A0 ++ H) w → pre H → Calls P f ⟨args⟩ w fun e w' => ∃ v A, e = .returned v ∧ post v A ∧ Sat E (A ++ H) w'
def delBlk : List Blk → Nat → List Blk
 | [], _ => []
 | _ :: r, 0 => r
 | b :: r, i + 1 => b :: delBlk r i
theorem delBlk_perm : ∀ {bl : List Blk} {h : Nat} {b : Blk}, nthBlk bl h = some b → bl.Perm (b :: delBlk bl h)
 | [], _, _, e => by simp [nthBlk] at e
 | b :: r, 0, _, e => by cases e; exact .refl _
 | c :: r, i + 1, b, e => by
  have := delBlk_perm (bl := r) (h := i) (b := b) e
  exact (this.cons c).trans (.swap _ _ _)
theorem setBlk_perm : ∀ {bl bl' : List Blk} {h : Nat} {b : Blk} {cs : List Value}, nthBlk bl h = some b → setBlk bl h cs = some bl' → bl'.Perm (⟨b.id, cs, b.ty⟩ :: delBlk bl h) ∧ bl'.map Blk.id = bl.map Blk.id
 | [], _, _, _, _, e, _ => by simp [nthBlk] at e
 | b :: r, bl', 0, _, cs, e, e' => by
  cases e
  obtain ⟨i, c0, t⟩ := b
  simp only [setBlk, Option.some.injEq] at e'
  subst e'
  exact ⟨.refl _, rfl⟩
 | c :: r, bl', i + 1, b, cs, e, e' => by
  simp only [setBlk] at e'
  split at e'
  ·rename_i r' hr'
   cases e'
   obtain ⟨h1, h2⟩ := setBlk_perm (bl := r) (h := i) (b := b) e hr'
   exact ⟨(h1.cons c).trans (.swap _ _ _), by simp [h2]⟩
  cases e'
section
variable {P : Program} {E : World} {Γ : Ty}
theorem Ct.toR {f : FuncId} {args : List Value} {pre : Hp → Prop} {post : Value → Hp → Prop} (h : Ct P f args [] pre post) : CtR P f args [] pre post := h
theorem CtR.intro (hΓ : TyOk P Γ) {f : FuncId} {fn : Func} (L : List Hp) (hf : P.funcs[f]? = some fn) (hn : decide (fn.name = "runtime.NumGoroutine") = false) (hb : fn.body.isSome = true) {args : List Value} (ha : Nat.ble args.length fn.ntmps = true) {A0 : Hp} {pre : Hp → Prop} {post : Value → Hp → Prop}
  (hL : L.flatten = A0) (h : ∀ E H, pre H → exFn P E Γ fn args (L ++ [H]) fun v bl R => ∃ A, post v A ∧ RLe (bl.map Blk.ent :: R) [A, H]) : CtR P f args A0 pre post := by
 refine ⟨⟨fn, hf, of_decide_eq_false hn, hb⟩, fun E H w hs hp => ?_⟩
 refine (exFn_sound hΓ hf ha (h E H hp) (by simpa [hL] using hs)).mono ?_
 rintro e w' ⟨v, bl, R', h1, h2, A, h3, L, h4⟩
 refine ⟨v, A, h1, h3, ?_⟩
 have : (St.hall ⟨[], bl, R'⟩).Perm ((A ++ H) ++ L) := by simpa [St.hall] using h4
 exact (h2.perm this).drop
theorem CtR.introB (hΓ : TyOk P Γ) {f : FuncId} {fn : Func} (svs : List SV) (bl : List Blk) (L : List Hp) (hf : P.funcs[f]? = some fn) (hn : decide (fn.name = "runtime.NumGoroutine") = false) (hb : fn.body.isSome = true) {args : List Value} (ha : Nat.ble svs.length fn.ntmps = true)
  (hargs : svs.map (SV.den bl) = args) (hok : ∀ s ∈ svs, s.ok bl) {A0 : Hp} {pre : Hp → Prop} {post : Value → Hp → Prop}
  (hL : A0.Perm (bl.map Blk.ent ++ L.flatten)) (h : ∀ E H, pre H → exFnS P E Γ fn svs bl (L ++ [H]) fun v bl R => ∃ A, post v A ∧ RLe (bl.map Blk.ent :: R) [A, H]) : CtR P f args A0 pre post := by
 refine ⟨⟨fn, hf, of_decide_eq_false hn, hb⟩, fun E H w hs hp => ?_⟩
 subst hargs
 have hs' : Sat E (St.hall ⟨[], bl, L ++ [H]⟩) w := by
  refine hs.perm ?_
  have := hL.append_right H
  simpa [St.hall, List.append_assoc] using this
 refine (exFnS_sound hΓ hf ha hok (h E H hp) hs').mono ?_
 rintro e w' ⟨v, bl, R', h1, h2, A, h3, L, h4⟩
 refine ⟨v, A, h1, h3, ?_⟩
 have : (St.hall ⟨[], bl, R'⟩).Perm ((A ++ H) ++ L) := by simpa [St.hall] using h4
 exact (h2.perm this).drop
theorem sat_le {X : Hp} {R R' : List Hp} {w : World} (hs : Sat E (X ++ R.flatten) w) (h : RLe R R') : Sat E (X ++ R'.flatten) w := by
 obtain ⟨L, hL⟩ := h
 have : (X ++ R.flatten).Perm ((X ++ R'.flatten) ++ L) := by
  rw [List.append_assoc]; exact hL.append_left X
 exact (hs.perm this).drop
theorem callR_at (i : Nat) {f : FuncId} {args : List Value} {bl : List Blk} {R : List Hp} {A0 : Hp} {pre : Hp → Prop} {post : Value → Hp → Prop} {K : Value → List Blk → List Hp → Prop} (hi : nthR R i = some A0) (hc : CtR P f args A0 pre post)
  (hp : pre (St.hall ⟨[], bl, setR R i []⟩)) (hk : ∀ v A, post v A → K v bl (setR R i A)) : VCcall P E f args ⟨[], bl, R⟩ K := by
 obtain ⟨pr, po, e1, e2⟩ := nthR_split hi
 have perm : ∀ A : Hp, (St.hall ⟨[], bl, pr ++ A :: po⟩).Perm (A ++ St.hall ⟨[], bl, pr ++ [] :: po⟩) := by
  intro A
  simp only [St.hall, List.flatten_append, List.flatten_cons, List.nil_append]
  rw [← List.append_assoc, ← List.append_assoc, ← List.append_assoc, ← List.append_assoc]
  refine List.Perm.append_right _ ?_
  have := List.perm_append_comm (l₁ := List.map Blk.ent bl ++ pr.flatten) (l₂ := A)
  simpa only [List.append_assoc] using this
 rw [e2] at hp
 refine .intro hc.1 (fun w hs => (hc.2 E _ w ((e1 ▸ hs).perm (perm A0)) hp).mono ?_)
 rintro e w' ⟨v, A, h1, h2, h3⟩
 exact ⟨v, bl, _, h1, h3.perm (perm A).symm, rfl, by rw [← e2]; exact hk v A h2⟩
theorem callR_part {f : FuncId} {args : List Value} {bl : List Blk} {R : List Hp} (A0 : Hp) (R0 : List Hp) {pre : Hp → Prop} {post : Value → Hp → Prop} {K : Value → List Blk → List Hp → Prop} (hc : CtR P f args A0 pre post)
  (hR : RLe R (A0 :: R0)) (hp : pre (St.hall ⟨[], bl, R0⟩)) (hk : ∀ v A, post v A → ∃ L, A.Perm L.flatten ∧ K v bl (L ++ R0)) : VCcall P E f args ⟨[], bl, R⟩ K := by
 have perm : ∀ A : Hp, (bl.map Blk.ent ++ (A :: R0).flatten).Perm (A ++ St.hall ⟨[], bl, R0⟩) := by
  intro A
  simp only [St.hall, List.flatten_cons]
  rw [← List.append_assoc, ← List.append_assoc]
  exact List.perm_append_comm.append_right _
 refine .intro hc.1 (fun w hs => (hc.2 E _ w ((sat_le hs hR).perm (perm A0)) hp).mono ?_)
 rintro e w' ⟨v, A, h1, h2, h3⟩
 obtain ⟨L, h4, h5⟩ := hk v A h2
 refine ⟨v, bl, L ++ R0, h1, h3.perm ((perm A).symm.trans ?_), rfl, h5⟩
 simp only [St.hall, List.flatten_cons, List.flatten_append]
 exact (h4.append_right _).append_left _
theorem call_newP {f : FuncId} {args : List Value} {bl : List Blk} {R : List Hp} {pre : Hp → Prop} {post : Value → Hp → Prop} {K : Value → List Blk → List Hp → Prop} (hc : Ct P f args [] pre post)
  (hp : pre (St.hall ⟨[], bl, R⟩)) (hk : ∀ v A, post v A → ∃ L, A.Perm L.flatten ∧ K v bl (L ++ R)) : VCcall P E f args ⟨[], bl, R⟩ K :=
 callR_part [] R hc.toR (.refl _) hp hk
theorem callR_blk (h : Nat) {f : FuncId} {args : List Value} {bl : List Blk} {R : List Hp} (A1 : Hp) (R0 : List Hp) {b : Blk} {pre : Hp → Prop} {post : Value → Hp → Prop} {K : Value → List Blk → List Hp → Prop} (hb : nthBlk bl h = some b)
  (hR : RLe R (A1 :: R0)) (hc : CtR P f args ((b.id, Obj.cells ⟨b.cs⟩ b.ty) :: A1) pre post) (hp : pre (St.hall ⟨[], delBlk bl h, R0⟩))
  (hk : ∀ v A, post v A → ∃ cs' bl' L, setBlk bl h cs' = some bl' ∧ A.Perm ((b.id, Obj.cells ⟨cs'⟩ b.ty) :: L.flatten) ∧ K v bl' (L ++ R0)) : VCcall P E f args ⟨[], bl, R⟩ K := by
 have hbl := (delBlk_perm hb).map Blk.ent
 refine .intro hc.1 (fun w hs => (hc.2 E _ w ((sat_le hs hR).perm ?_) hp).mono ?_)
 ·refine (hbl.append_right _).trans ?_
  simp only [List.map_cons, St.hall, List.flatten_cons, List.cons_append]
  refine .cons _ ?_
  rw [← List.append_assoc, ← List.append_assoc]
  exact List.perm_append_comm.append_right _
 rintro e w' ⟨v, A, h1, h2, h3⟩
 obtain ⟨cs', bl', L, h4, h5, h6⟩ := hk v A h2
 obtain ⟨g1, g2⟩ := setBlk_perm hb h4
 refine ⟨v, bl', L ++ R0, h1, h3.perm ?_, g2, h6⟩
 have g3 := (g1.map Blk.ent).symm
 refine List.Perm.trans ?_ (g3.append_right _)
 refine (h5.append_right _).trans ?_
 simp only [List.map_cons, St.hall, List.flatten_append, List.cons_append, Blk.ent]
 refine .cons _ ?_
 rw [← List.append_assoc, ← List.append_assoc]
 exact List.perm_append_comm.append_right _
theorem draw_joinK {α : Type} {n id : Nat} {ops : Array Oper} {fr : Fr} {bl : List Blk} {R : List Hp} {K : St → Prop} (ws : List Nat) (mods : α → Fr) (bls : α → List Blk) (Rs : α → List Hp) (I : α → Prop)
  (h1 : VCdraw P E n id ops ⟨fr, bl, R⟩ (fun st' => ∃ z, I z ∧ Weak st' ⟨mods z ++ dropK ws fr, bls z, Rs z⟩)) (h2 : ∀ z, I z → K ⟨mods z ++ dropK ws fr, bls z, Rs z⟩) : VCdraw P E n id ops ⟨fr, bl, R⟩ K :=
 draw_join (fun z => ⟨mods z ++ dropK ws fr, bls z, Rs z⟩) I h1 h2
end
end Go.SX
namespace Go.SX
theorem svi_eq {a b : Int} (h : a = b) : Value.int .i64 a = Value.int .i64 b := by rw [h]
theorem u8_wrap (x : Int) : IntKind.u8.wrap x = x % 256 := by
 unfold IntKind.wrap
 simp [IntKind.bits, IntKind.signed]
theorem str_inj {a b : ByteArray} : a.toList = b.toList ↔ a = b := by
 constructor
 ·intro h
  rw [ByteArray.toList_eq, ByteArray.toList_eq] at h
  obtain ⟨⟨a⟩⟩ := a; obtain ⟨⟨b⟩⟩ := b
  cases h; rfl
 rintro rfl; rfl
theorem u8_inj {a b : UInt8} : ((a.toNat : Nat) : Int) = (b.toNat : Nat) ↔ a = b := by
 constructor
 ·intro h
  exact UInt8.toNat_inj.1 (by omega)
 rintro rfl; rfl
theorem setAt_len (l : List Value) : ∀ (cs : List Value) (o : Nat), (setAt cs o l).length = cs.length := by
 induction l with
 | nil => intro cs o; rfl
 | cons x r ih => intro cs o; rw [setAt, ih]; simp
theorem setAt_app_l (l1 l2 l : List Value) (d : Nat) (h : d + l.length ≤ l1.length) : setAt (l1 ++ l2) d l = setAt l1 d l ++ l2 := by
 rw [setAt_eq _ _ _ (by rw [List.length_append]; omega), setAt_eq _ _ _ h]
 rw [List.take_append_of_le_length (by omega), List.drop_append_of_le_length (by omega)]
 simp
theorem setAt_app_r (l1 l2 l : List Value) (d : Nat) (h : d + l.length ≤ l2.length) : setAt (l1 ++ l2) (l1.length + d) l = l1 ++ setAt l2 d l := by
 rw [setAt_eq _ _ _ (by rw [List.length_append]; omega), setAt_eq _ _ _ h]
 rw [List.take_append, List.drop_append, List.take_of_length_le (by omega), List.drop_eq_nil_of_le (by omega : l1.length ≤ l1.length + d + l.length)]
 rw [show l1.length + d - l1.length = d by omega, show l1.length + d + l.length - l1.length = d + l.length by omega]
 simp
theorem setAt_whole (l l' : List Value) (h : l'.length = l.length) : setAt l 0 l' = l' := by
 rw [setAt_eq _ _ _ (by omega)]
 simp [h]
theorem setAt_at {l l1 : List Value} (d d' s : Nat) (l' : List Value) (hl : l1 = (l.drop d).take s) (h1 : d + s ≤ l.length) (h2 : d' + l'.length ≤ s) : setAt l d (setAt l1 d' l') = setAt l (d + d') l' := by
 have e1 : l1.length = s := by rw [hl, List.length_take, List.length_drop]; omega
 have e0 : (setAt l1 d' l').length = s := by rw [setAt_len, e1]
 rw [setAt_eq _ _ _ (by rw [setAt_len]; omega), e0, setAt_eq _ _ _ (by omega), setAt_eq _ _ _ (by omega)]
 have a1 : l1.take d' = (l.drop d).take d' := by rw [hl, List.take_take, Nat.min_eq_left (by omega)]
 have a2 : l1.drop (d' + l'.length) ++ l.drop (d + s) = l.drop (d + d' + l'.length) := by
  rw [Nat.add_assoc d]
  generalize hk : d' + l'.length = k at *
  rw [← List.drop_drop, ← List.drop_drop, hl]
  have hm : (l.drop d).length = l.length - d := List.length_drop
  generalize l.drop d = m at *
  rw [← List.drop_append_of_le_length (by rw [List.length_take]; omega), List.take_append_drop]
 rw [a1]
 have e1' := e1
 have a3 : l.take d ++ (l.drop d).take d' = l.take (d + d') := by rw [List.take_add]
 rw [← a2, ← a3]
 simp only [List.append_assoc]
section
variable {α β γ : Type}
structure Fld (g : Gt α) (h : Gt β) (get : α → β) (upd : α → β → α) (d : Nat) : Prop where
 fit : d + h.size ≤ g.size
 rd : ∀ {H : Hp} {l : List Value} {x : α}, g.rd H l x → h.rd H ((l.drop d).take h.size) (get x)
 ow : ∀ {l : List Value} {x : α} {A : Hp}, g.ow l x A → ∃ Af Ar, A.Perm (Af ++ Ar) ∧ h.ow ((l.drop d).take h.size) (get x) Af ∧ ∀ l' y B, h.ow l' y B → g.ow (setAt l d l') (upd x y) (B ++ Ar)
theorem Fld.id (g : Gt α) : Fld g g (fun x => x) (fun _ y => y) 0 where
 fit := by omega
 rd h := by
  have e := g.len h
  rw [List.drop_zero, ← e, List.take_length]; exact h
 ow h := by
  have e := g.len (g.owrd h)
  refine ⟨_, [], by rw [List.append_nil], by rw [List.drop_zero, ← e, List.take_length]; exact h, fun l' y B hB => ?_⟩
  have e' := g.len (g.owrd hB)
  rw [setAt_whole _ _ (by omega), List.append_nil]; exact hB
theorem Fld.fst (g : Gt α) (h : Gt β) : Fld (gPair g h) g (fun x => x.1) (fun x y => (y, x.2)) 0 where
 fit := by show 0 + g.size ≤ g.size + h.size; omega
 rd := by
  rintro H l x ⟨l1, l2, rfl, h1, h2⟩
  have e := g.len h1
  rw [List.drop_zero, ← e, List.take_left]; exact h1
 ow := by
  rintro l x A ⟨l1, l2, A1, A2, rfl, hp, h1, h2⟩
  have e := g.len (g.owrd h1)
  refine ⟨A1, A2, hp, by rw [List.drop_zero, ← e, List.take_left]; exact h1, fun l' y B hB => ?_⟩
  have e' := g.len (g.owrd hB)
  rw [setAt_app_l _ _ _ _ (by omega), setAt_whole _ _ (by omega)]
  exact ⟨l', l2, B, A2, rfl, .refl _, hB, h2⟩
theorem Fld.snd (g : Gt α) (h : Gt β) : Fld (gPair g h) h (fun x => x.2) (fun x y => (x.1, y)) g.size where
 fit := by show g.size + h.size ≤ g.size + h.size; omega
 rd := by
  rintro H l x ⟨l1, l2, rfl, h1, h2⟩
  have e := g.len h1
  have e2 := h.len h2
  rw [← e, List.drop_left, ← e2, List.take_length]; exact h2
 ow := by
  rintro l x A ⟨l1, l2, A1, A2, rfl, hp, h1, h2⟩
  have e := g.len (g.owrd h1)
  have e2 := h.len (h.owrd h2)
  refine ⟨A2, A1, hp.trans List.perm_append_comm, by rw [← e, List.drop_left, ← e2, List.take_length]; exact h2, fun l' y B hB => ?_⟩
  have e' := h.len (h.owrd hB)
  have := setAt_app_r l1 l2 l' 0 (by omega)
  rw [Nat.add_zero, e] at this
  rw [this, setAt_whole _ _ (by omega)]
  exact ⟨l1, l', A1, B, rfl, List.perm_append_comm, h1, hB⟩
theorem Fld.iso {g : Gt α} {h : Gt β} {get : α → β} {upd : α → β → α} {d : Nat} {f : γ → α} {f' : α → γ} (F : Fld g h get upd d) {get' : γ → β} {upd' : γ → β → γ} (hg : ∀ x, get' x = get (f x)) (hu : ∀ x y, f (upd' x y) = upd (f x) y) : Fld (gIso g f f') h get' upd' d where
 fit := F.fit
 rd hh := by rw [hg]; exact F.rd hh
 ow hh := by
  obtain ⟨Af, Ar, h1, h2, h3⟩ := F.ow hh
  refine ⟨Af, Ar, h1, by rw [hg]; exact h2, fun l' y B hB => ?_⟩
  show g.ow _ (f _) _
  rw [hu]; exact h3 l' y B hB
theorem Fld.comp {g : Gt α} {h : Gt β} {k : Gt γ} {get : α → β} {upd : α → β → α} {d : Nat} {get' : β → γ} {upd' : β → γ → β} {d' : Nat} (F : Fld g h get upd d) (G : Fld h k get' upd' d') : Fld g k (fun x => get' (get x)) (fun x y => upd x (upd' (get x) y)) (d + d') where
 fit := by have := F.fit; have := G.fit; omega
 rd {H l x} hh := by
  have := G.rd (F.rd hh)
  have hf := G.fit
  rw [List.drop_take, List.take_take, Nat.min_eq_left (by omega), List.drop_drop] at this
  exact this
 ow {l x A} hh := by
  have hf := G.fit
  have hf2 := F.fit
  have el := g.len (g.owrd hh)
  obtain ⟨Af, Ar, h1, h2, h3⟩ := F.ow hh
  obtain ⟨Bf, Br, k1, k2, k3⟩ := G.ow h2
  refine ⟨Bf, Br ++ Ar, ?_, ?_, fun l' y B hB => ?_⟩
  ·refine h1.trans ?_
   rw [← List.append_assoc]; exact k1.append_right _
  ·rw [List.drop_take, List.take_take, Nat.min_eq_left (by omega), List.drop_drop] at k2
   exact k2
  have e' := k.len (k.owrd hB)
  have := h3 _ _ _ (k3 l' y B hB)
  rw [setAt_at (l := l) d d' h.size l' rfl (by omega) (by omega)] at this
  rw [← List.append_assoc]; exact this
def Foc (h : Gt β) (l : List Value) (y : β) (A : Hp) (back : β → Hp → Prop) : Prop :=
 ∃ Af Ar, A.Perm (Af ++ Ar) ∧ h.ow l y Af ∧ ∀ y' B A', h.ow l y' B → A'.Perm (B ++ Ar) → back y' A'
theorem setAt_self (l : List Value) (d s : Nat) (h : d + s ≤ l.length) : setAt l d ((l.drop d).take s) = l := by
 rw [setAt_eq _ _ _ (by rw [List.length_take, List.length_drop]; omega)]
 rw [List.length_take, List.length_drop, Nat.min_eq_left (by omega), ← List.drop_drop, List.append_assoc, List.take_append_drop, List.take_append_drop]
theorem Fld.foc {g : Gt α} {h : Gt β} {get : α → β} {upd : α → β → α} {d : Nat} (F : Fld g h get upd d) {l : List Value} {x : α} {A : Hp} (ho : g.ow l x A) : Foc h ((l.drop d).take h.size) (get x) A (fun y A' => g.ow l (upd x y) A') := by
 obtain ⟨Af, Ar, h1, h2, h3⟩ := F.ow ho
 refine ⟨Af, Ar, h1, h2, fun y' B A' hB hp => g.owp ?_ hp⟩
 have := h3 _ _ _ hB
 rwa [setAt_self _ _ _ (by have := F.fit; have := g.len (g.owrd ho); omega)] at this
variable {P : Program} {E : World} {Γ : Ty} {n : Nat} {g : Gt α} {T : TypeId}
theorem gfoc {h : Gt β} {get : α → β} {upd : α → β → α} {d : Nat} (F : Fld g h get upd d) {base : Option Addr} {m cap : Nat} {xs : List α} {A : Hp} (ho : (gSl T g).ow [.slice base m cap] xs A) (z : α) (i : Nat) (hi : i < xs.length) :
  ∃ b o lx, base = some ⟨b, o, none⟩ ∧ g.rd A lx (xs[i]?.getD z) ∧ RdCells A b (o + i * g.size) g.size lx ∧ Foc h ((lx.drop d).take h.size) (get (xs[i]?.getD z)) A (fun y A' => (gSl T g).ow [.slice base m cap] (xs.set i (upd (xs[i]?.getD z) y)) A') := by
 obtain ⟨lx, Ax, rest, b, o, hb, hp, hx, hr, hc⟩ := gopen ho i hi
 rw [List.getElem?_eq_getElem hi, Option.getD_some]
 refine ⟨b, o, lx, hb, g.mono (fun p h' => hp.mem_iff.2 (List.mem_append_left _ h')) (g.owrd hx), hr.mono fun p h' => hp.mem_iff.2 (List.mem_append_right _ h'), ?_⟩
 obtain ⟨Af, Ar, h1, h2, h3⟩ := F.foc hx
 refine ⟨Af, Ar ++ rest, ?_, h2, fun y' B A' hB hA' => ?_⟩
 ·refine hp.trans ?_
  rw [← List.append_assoc]; exact h1.append_right _
 refine hc _ (B ++ Ar) A' (h3 y' B (B ++ Ar) hB (.refl _)) ?_
 rw [List.append_assoc]; exact hA'
theorem load_foc {h : Gt β} {get : α → β} {upd : α → β → α} {d : Nat} (F : Fld g h get upd d) (z : α) {H' A : Hp} {base : Option Addr} {m cap : Nat} {xs : List α} {i : Int} {b o off : Nat} {G : List Value → Prop}
  (ho : (gSl T g).ow [.slice base m cap] xs A) (h0 : 0 ≤ i) (h1 : i < xs.length) (hb : base = some ⟨b, o, none⟩) (hoff : off = o + i.toNat * g.size + d) (sub : ∀ p ∈ A, p ∈ H')
  (k : ∀ l, h.rd A l (get (xs[i.toNat]?.getD z)) → Foc h l (get (xs[i.toNat]?.getD z)) A (fun y A' => (gSl T g).ow [.slice base m cap] (xs.set i.toNat (upd (xs[i.toNat]?.getD z) y)) A') → G l) : VCload H' b off h.size G := by
 obtain ⟨b', o', lx, hb', hrd, hr, hf⟩ := gfoc F ho z i.toNat (by omega)
 rw [hb] at hb'; cases hb'
 have hfit := F.fit
 have el := g.len hrd
 refine .intro ((lx.drop d).take h.size) ?_ (k _ (F.rd hrd) hf)
 obtain ⟨g1, cs, T', fz, g2, g3⟩ := hr
 refine ⟨by rw [List.length_take, List.length_drop]; omega, cs, T', fz, sub _ g2, fun j hj => ?_⟩
 have := g3 (d + j) (by omega)
 rw [hoff, Nat.add_assoc (o + i.toNat * g.size) d j, this, List.getElem?_take, if_pos hj, List.getElem?_drop]
open Classical in
theorem call_foc (i : Nat) {h : Gt β} {l : List Value} {y y' : β} {A : Hp} {back : β → Hp → Prop} {Q : Value → Prop} {f : FuncId} {args : List Value} {bl : List Blk} {R : List Hp} {pre : Hp → Prop} {K : Value → List Blk → List Hp → Prop} (hi : nthR R i = some A)
  (hf : Foc h l y A back) (hc : ∀ Af, h.ow l y Af → CtR P f args Af pre (fun v A' => Q v ∧ h.ow l y' A')) (hp : ∀ H, (∀ p ∈ St.hall ⟨[], bl, setR R i []⟩, p ∈ H) → pre H)
  (hk : ∀ v A', Q v → back y' A' → K v bl (setR R i A')) : VCcall P E f args ⟨[], bl, R⟩ K := by
 obtain ⟨Af, Ar, h1, h2, h3⟩ := hf
 obtain ⟨pr, po, e1, e2⟩ := nthR_split hi
 have perm : ∀ A B C : Hp, A.Perm (B ++ C) → (St.hall ⟨[], bl, pr ++ A :: po⟩).Perm (B ++ (C ++ St.hall ⟨[], bl, pr ++ [] :: po⟩)) := by
  intro A B C hAB
  refine perm_cnt fun a => ?_
  have := hAB.count_eq a
  simp only [St.hall, List.flatten_append, List.flatten_cons, List.count_append, List.nil_append] at *
  omega
 have hc' := hc Af h2
 refine .intro hc'.1 (fun w hs => (hc'.2 E (Ar ++ St.hall ⟨[], bl, pr ++ [] :: po⟩) w ?_ (hp _ fun p hp' => List.mem_append_right _ (by rw [e2] at hp'; exact hp'))).mono ?_)
 ·exact (e1 ▸ hs).perm (perm A Af Ar h1)
 rintro e w' ⟨v, A', k1, ⟨k2, k3⟩, k4⟩
 refine ⟨v, bl, setR R i (A' ++ Ar), k1, ?_, rfl, hk v _ k2 (h3 y' A' _ k3 (.refl _))⟩
 rw [e2]
 exact k4.perm (perm (A' ++ Ar) A' Ar (.refl _)).symm
theorem call_q {Q : Value → Prop} {f : FuncId} {args : List Value} {bl : List Blk} {R : List Hp} {pre : Hp → Prop} {K : Value → List Blk → List Hp → Prop} (hc : Ct P f args [] pre (fun v A => Q v ∧ A = []))
  (hp : pre (St.hall ⟨[], bl, R⟩)) (hk : ∀ v, Q v → K v bl R) : VCcall P E f args ⟨[], bl, R⟩ K := by
 refine call_newP hc hp ?_
 rintro v A ⟨h, rfl⟩
 exact ⟨[], by simp, hk v h⟩
theorem Fld.st {h : Gt β} {get : α → β} {upd : α → β → α} {d : Nat} (F : Fld g h get upd d) {x : α} {v : β} {l : List Value} (hpl : ∀ l y A, h.ow l y A → A = []) (ho : h.ow l v []) :
  ∀ lx Ax, g.ow lx x Ax → d + l.length ≤ g.size ∧ ∃ Ay, g.ow (setAt lx d l) (upd x v) Ay ∧ Ax.Perm Ay := by
 intro lx Ax hx
 have e := h.len (h.owrd ho)
 obtain ⟨Af, Ar, h1, h2, h3⟩ := F.ow hx
 have := hpl _ _ _ h2
 subst this
 exact ⟨by rw [e]; exact F.fit, _, h3 l v [] ho, h1⟩
theorem gstoreN {h : Gt β} {get : α → β} {upd : α → β → α} {d : Nat} (F : Fld g h get upd d) (z : α) (k : Nat) {R : List Hp} {A : Hp} {base : Option Addr} {m cap : Nat} {xs : List α} {i : Int} {b o off : Nat} {l : List Value} {G : List Hp → Prop} (j : Nat) (hj : nthR R j = some A) (hk : i = (k : Int)) (ho : (gSl T g).ow [.slice base m cap] xs A)
  (h0 : 0 ≤ i) (h1 : i < xs.length) (hb : base = some ⟨b, o, none⟩) (hoff : off = o + i.toNat * g.size + d) (hpl : ∀ l y A, h.ow l y A → A = []) (y : β) (hy : h.ow l y [])
  (c : ∀ A', (gSl T g).ow [.slice base m cap] (xs.set k (upd (xs[k]?.getD z) y)) A' → G (setR R j A')) : VCstore R b off l G := by
 subst hk
 refine gstore j hj ho h0 h1 hb d hoff (upd (xs[k]?.getD z) y) ?_ fun A' _ o => c A' (by simpa using o)
 have : xs[(k : Int).toNat]'(by omega) = xs[k]?.getD z := by
  have hlt : k < xs.length := by omega
  simp [List.getElem?_eq_getElem hlt]
 rw [this]
 exact F.st hpl hy
theorem gstore1N (k : Nat) {R : List Hp} (A B : Hp) (Rr : List Hp) {base : Option Addr} {m cap : Nat} {xs : List α} {i : Int} {b o off : Nat} {l : List Value} {G : List Hp → Prop} (hR : RLe R (A :: B :: Rr)) (hk : i = (k : Int)) (h : (gSl T g).ow [.slice base m cap] xs A)
  (h0 : 0 ≤ i) (h1 : i < xs.length) (hb : base = some ⟨b, o, none⟩) (hoff : off = o + i.toNat * g.size) (y : α) (hy : g.ow l y B)
  (c : ∀ A', (gSl T g).ow [.slice base m cap] (xs.set k y) A' → G (A' :: Rr)) : VCstore R b off l G := by
 subst hk
 exact gstore1 A B Rr hR h h0 h1 hb hoff y hy fun A' o => c A' (by simpa using o)
theorem CtR.introP (hΓ : TyOk P Γ) {f : FuncId} {fn : Func} (L : List Hp) (hf : P.funcs[f]? = some fn) (hn : decide (fn.name = "runtime.NumGoroutine") = false) (hb : fn.body.isSome = true) {args : List Value} (ha : Nat.ble args.length fn.ntmps = true) {A0 : Hp} {pre : Hp → Prop} {post : Value → Hp → Prop}
  (hL : A0.Perm L.flatten) (h : ∀ E H, pre H → exFn P E Γ fn args (L ++ [H]) fun v bl R => ∃ A, post v A ∧ RLe (bl.map Blk.ent :: R) [A, H]) : CtR P f args A0 pre post := by
 have := CtR.intro (A0 := L.flatten) (post := post) hΓ L hf hn hb ha rfl h
 refine ⟨this.1, fun E H w hs hp => this.2 E H w (hs.perm (hL.append_right H)) hp⟩
def OwE (T : TypeId) (g : Gt α) (base : Option Addr) (m cap : Nat) (xs : List α) (k : Nat) (x : α) (A : Hp) : Prop :=
 k < xs.length ∧ (gSl T g).ow [.slice base m cap] (xs.set k x) A
theorem OwE.mk {base : Option Addr} {m cap : Nat} {xs : List α} {A : Hp} (z : α) (k : Nat) (h : (gSl T g).ow [.slice base m cap] xs A) (hk : k < xs.length) :
  ∃ x, x = xs[k]?.getD z ∧ OwE T g base m cap xs k x A := by
 refine ⟨_, rfl, hk, ?_⟩
 have : xs.set k (xs[k]?.getD z) = xs := by
  rw [List.getElem?_eq_getElem hk, Option.getD_some, List.set_getElem_self]
 rw [this]; exact h
theorem oe_idx {base : Option Addr} {m cap : Nat} {xs : List α} {A : Hp} {k : Nat} {x : α} {i : Int} {F : Nat → Nat → Prop} (h : OwE T g base m cap xs k x A) (hk : i = (k : Int)) (c : ∀ b o, base = some ⟨b, o, none⟩ → F b o) : VCidx base m i F := by
 obtain ⟨h1, h2⟩ := h
 subst hk
 exact idx_rd ((gSl T g).owrd h2) (by omega) (by rw [List.length_set]; omega) c
theorem oe_load {h : Gt β} {get : α → β} {upd : α → β → α} {d : Nat} (F : Fld g h get upd d) {H' A : Hp} {base : Option Addr} {m cap : Nat} {xs : List α} {k : Nat} {x : α} {i : Int} {b o off : Nat} {G : List Value → Prop} (ho : OwE T g base m cap xs k x A) (hk : i = (k : Int))
  (hb : base = some ⟨b, o, none⟩) (hoff : off = o + i.toNat * g.size + d) (sub : ∀ p ∈ A, p ∈ H')
  (c : ∀ l, h.rd A l (get x) → Foc h l (get x) A (fun y A' => ∃ x', x' = upd x y ∧ OwE T g base m cap xs k x' A') → G l) : VCload H' b off h.size G := by
 obtain ⟨h1, h2⟩ := ho
 subst hk
 have e : ∀ y : α, (xs.set k y)[(k : Int).toNat]?.getD x = y := fun y => by simp [h1]
 refine load_foc F x h2 (by omega) (by rw [List.length_set]; omega) hb hoff sub fun l hl hf => ?_
 rw [e] at hl hf
 refine c l hl ?_
 obtain ⟨Af, Ar, k1, k2, k3⟩ := hf
 refine ⟨Af, Ar, k1, k2, fun y' B A' hB hp => ⟨_, rfl, h1, ?_⟩⟩
 have := k3 y' B A' hB hp
 simp only [Int.toNat_natCast, List.set_set] at this
 exact this
theorem oe_store {h : Gt β} {get : α → β} {upd : α → β → α} {d : Nat} (F : Fld g h get upd d) {R : List Hp} {A : Hp} {base : Option Addr} {m cap : Nat} {xs : List α} {k : Nat} {x : α} {i : Int} {b o off : Nat} {l : List Value} {G : List Hp → Prop} (j : Nat) (hj : nthR R j = some A) (ho : OwE T g base m cap xs k x A) (hk : i = (k : Int))
  (hb : base = some ⟨b, o, none⟩) (hoff : off = o + i.toNat * g.size + d) (hpl : ∀ l y A, h.ow l y A → A = []) (y : β) (hy : h.ow l y [])
  (c : ∀ x' A', x' = upd x y → OwE T g base m cap xs k x' A' → G (setR R j A')) : VCstore R b off l G := by
 obtain ⟨h1, h2⟩ := ho
 have e : ∀ y : α, (xs.set k y)[k]?.getD x = y := fun y => by simp [h1]
 refine gstoreN F x k j hj hk h2 (by omega) (by rw [List.length_set]; omega) hb hoff hpl y hy fun A' o => c _ A' rfl ⟨h1, ?_⟩
 rw [List.set_set, e] at o
 exact o
theorem OwE.done {base : Option Addr} {m cap : Nat} {xs : List α} {A : Hp} {k : Nat} {x : α} {ys : List α} (h : OwE T g base m cap xs k x A) (e : xs.set k x = ys) : (gSl T g).ow [.slice base m cap] ys A := e ▸ h.2
theorem loop_stepA {ε : Type} {st' : St} {I : ε → Prop} {μ : ε → Nat} {J : ε → St} {m0 : Nat} (x : ε) (h3 : RLe st'.R (J x).R) (h1 : FrLe st'.bl (J x).bl st'.fr (J x).fr) (h2 : BlLe st'.bl (J x).bl) (h4 : I x) (h5 : μ x < m0) :
  ∃ x', I x' ∧ μ x' < m0 ∧ Weak st' (J x') := ⟨x, h4, h5, h1, h2, h3⟩
theorem join_stepA {ε : Type} {st' : St} {I : ε → Prop} {J : ε → St} (x : ε) (h3 : RLe st'.R (J x).R) (h1 : FrLe st'.bl (J x).bl st'.fr (J x).fr) (h2 : BlLe st'.bl (J x).bl) (h4 : I x) :
  ∃ x', I x' ∧ Weak st' (J x') := ⟨x, h4, h1, h2, h3⟩
theorem keep_sub {fr fr' : Fr} {bl bl' : List Blk} {R R' : List Hp} (h1 : ∀ b ∈ bl, b ∈ bl') (h2 : ∀ A ∈ R, A ∈ R') : ∀ p ∈ St.hall ⟨fr, bl, R⟩, p ∈ St.hall ⟨fr', bl', R'⟩ := by
 intro p hp
 simp only [St.hall, List.mem_append, List.mem_map, List.mem_flatten] at hp ⊢
 rcases hp with ⟨b, hb, rfl⟩ | ⟨A, hA, hp⟩
 ·exact .inl ⟨b, h1 b hb, rfl⟩
 exact .inr ⟨A, h2 A hA, hp⟩
theorem gI_pl : ∀ l y A, gI.ow l y A → A = [] := fun _ _ _ h => h.2.2
theorem gB_pl : ∀ l y A, gB.ow l y A → A = [] := fun _ _ _ h => h.2.2
theorem fl_pl {f : Fl α} {mk : Int → α} {sz : α → Nat} : ∀ l y A, (f.gt mk sz).ow l y A → A = [] := fun _ _ _ h => h.2.2
theorem mkL_get (g : Gt α) (z : α) (xs : List α) (k0 : Int) (i : Nat) (h : i < xs.length) : (mkL g k0 xs)[i]?.getD z = g.mark (k0 + cntL g (xs.take i)) (xs[i]?.getD z) := by
 have e : xs = xs.take i ++ xs[i] :: xs.drop (i + 1) := by
  rw [← List.drop_eq_getElem_cons h, List.take_append_drop]
 have e1 : (mkL g k0 (xs.take i)).length = i := by rw [mkL_len, List.length_take]; omega
 conv => lhs; rw [e, mkL_append]
 rw [List.getElem?_append_right (by omega), e1, Nat.sub_self, List.getElem?_eq_getElem h, Option.getD_some]
 simp [mkL]
theorem mk_step (g : Gt α) (z : α) (xs : List α) (k0 : Int) (i : Nat) (h : i < xs.length) :
  (mkL g k0 (xs.take i) ++ xs.drop i).set i (g.mark (k0 + cntL g (xs.take i)) (xs[i]?.getD z)) = mkL g k0 (xs.take (i + 1)) ++ xs.drop (i + 1) := by
 have e : (mkL g k0 (xs.take i)).length = i := by rw [mkL_len, List.length_take]; omega
 rw [List.set_append_right _ _ (by omega), e, Nat.sub_self, List.drop_eq_getElem_cons h, List.set_cons_zero, List.getElem?_eq_getElem h, Option.getD_some, ← List.take_append_getElem h, mkL_append]
 simp [mkL]
theorem mk_get (g : Gt α) (z : α) (xs : List α) (k0 : Int) (i : Nat) (h : i < xs.length) : (mkL g k0 (xs.take i) ++ xs.drop i)[i]?.getD z = xs[i]?.getD z := by
 have e : (mkL g k0 (xs.take i)).length = i := by rw [mkL_len, List.length_take]; omega
 rw [List.getElem?_append_right (by omega), e, Nat.sub_self, List.getElem?_drop, Nat.add_zero]
theorem mk_len (g : Gt α) (xs : List α) (k0 : Int) (i : Nat) (h : i ≤ xs.length) : (mkL g k0 (xs.take i) ++ xs.drop i).length = xs.length := by
 rw [List.length_append, mkL_len, List.length_take, List.length_drop]; omega
theorem cntL_step (g : Gt α) (xs : List α) (k : Nat) (z : α) (h : k < xs.length) : cntL g (xs.take (k + 1)) = cntL g (xs.take k) + g.cnt (xs[k]?.getD z) := by
 rw [← List.take_append_getElem h, cntL_append, List.getElem?_eq_getElem h]; rfl
theorem cntL_take_le (g : Gt α) (xs : List α) (k : Nat) : cntL g (xs.take k) ≤ cntL g xs := by
 conv => rhs; rw [← List.take_append_drop k xs]
 rw [cntL_append]; omega
end
end Go.SX
namespace Go.SX
theorem strOfNums_u8 (xs : List UInt8) : strOfNums (xs.map fun x => (x.toNat : Int)) = ⟨xs.toArray⟩ := by
 unfold strOfNums
 congr 2
 rw [List.map_map]
 conv => rhs; rw [← List.map_id xs]
 apply List.map_congr_left
 intro x _
 simp
section
variable {P : Program} {E : World} {Γ : Ty} {n : Nat}
theorem conv_bs (hΓ : TyOk P Γ) (xs : List UInt8) {dst : Option Nat} {x : Operand} {t u e ty : TypeId} {pos : String} {after : Array Edge} {guard : Option (Nat × Bool)} {fr : Fr} {bl : List Blk} {R : List Hp} {K : St → Prop}
  {base : Option Addr} {m cap : Nat} (hx1 : getK fr x fun sv => sv = .v (.slice base m cap)) (hr : (rpSl flByte.rp).rd (St.hall ⟨[], bl, R⟩) [.slice base m cap] xs)
  (ht : undOf Γ t = some (.slice e)) (he : undOf Γ e = some (.int .u8)) (hu : undOf Γ u = some .string)
  (hk : putK n fr dst (.v (.string ⟨xs.toArray⟩)) fun fr => K ⟨fr, bl, R⟩) : VCraw P E n ⟨dst, .convert t u x, ty, pos, after, guard⟩ ⟨fr, bl, R⟩ K := by
 refine ⟨fun a w hrel Q => ?_⟩
 obtain ⟨sv, g1, _, rfl⟩ := getK_sound hrel hx1
 refine wp_value (s := .v _) (v := .string ⟨xs.toArray⟩) ?_ hrel rfl trivial hk
 have key : (convert t u (.slice base m cap)).run P w = .ok (.string ⟨xs.toArray⟩) w := by
  obtain ⟨base', cap', e1, h1, h2⟩ := hr
  cases e1
  have ht' := undOf_ok hΓ ht
  have he' := undOf_ok hΓ he
  have hu' := undOf_ok hΓ hu
  cases xs with
  | nil =>
   rw [run_convert_bytes_string w t u e _ _ _ ht' he' hu']
   cases base with
   | none => rfl
   | some a => exact run_bytesToString w a 0 cap [] rfl
  | cons x0 r =>
   obtain ⟨b, o, l', hb, hc, _⟩ := h2 0 (by simp)
   subst hb
   rw [← strOfNums_u8]
   refine run_convert_bytes_arg w t e ht' he' b o (x0 :: r).length cap ((x0 :: r).map fun x => (x.toNat : Int)) (by simp) (fun i hi => ?_) u hu'
   obtain ⟨b2, o2, l2, hb2, hc2, hl2, _⟩ := h2 i hi
   cases hb2
   obtain ⟨_, cs, T, fz, k1, k2⟩ := hc2
   have k3 := k2 0 (by show 0 < 1; omega)
   rw [hrel.sat.cell k1]
   have e2 : flByte.rp.size = 1 := rfl
   rw [e2, Nat.mul_one, Nat.add_zero] at k3
   rw [k3, hl2, List.getD_eq_getElem?_getD, List.getElem?_map, List.getElem?_eq_getElem hi]
   rfl
 simp only [execOp, g1, SV.den, Sem.run_bind, key, Sem.run_pure, Result.andThen_ok]
theorem bsz (l : List UInt8) : (⟨l.toArray⟩ : ByteArray).size = l.length := by simp [ByteArray.size]
def inU8 : List Int → Prop
 | [] => True
 | v :: r => (0 ≤ v ∧ v < 256) ∧ inU8 r
theorem lit_bs (vs : List Int) {b : Nat} {e : TypeId} {H : Hp} {cs : List Value} (hm : (b, Obj.cells ⟨cs⟩ e) ∈ H) (hc : cs = vs.map fun v => Value.int .u8 v) (h : inU8 vs) (hl : vs.length ≤ 9223372036854775807) : (rpSl flByte.rp).rd H [.slice (some ⟨b, 0, none⟩) vs.length vs.length] (vs.map fun v => UInt8.ofNat v.toNat) := by
 subst hc
 refine ⟨some ⟨b, 0, none⟩, vs.length, by simp, by simpa using hl, fun i hi => ?_⟩
 have hi' : i < vs.length := by simpa using hi
 refine ⟨b, 0, [.int .u8 vs[i]], rfl, ⟨rfl, _, _, _, hm, fun j hj => ?_⟩, ?_, trivial⟩
 ·have : j = 0 := by have : j < 1 := hj; omega
  subst this
  have e2 : flByte.rp.size = 1 := rfl
  simp [e2, hi']
 have key : ∀ (vs : List Int) (i : Nat) (hi : i < vs.length), inU8 vs → 0 ≤ vs[i] ∧ vs[i] < 256 := by
  intro vs
  induction vs with
  | nil => intro i hi; simp at hi
  | cons v r ih =>
   intro i hi h
   cases i with
   | zero => exact h.1
   | succ i => exact ih i (by simpa using hi) h.2
 have := key vs i hi' h
 show [Value.int .u8 vs[i]] = [.int .u8 ((vs.map fun v => UInt8.ofNat v.toNat)[i]).toNat]
 rw [List.getElem_map]
 simp; omega
end
end Go.SX
namespace Go.Proofs.YtcnclhjhnjpeiaaGreatDoor
open Go.SX Go.Proofs
open Tryz
section
theorem mixed : prog.follows .mixedOrders = true := by kernel_rfl
theorem rd_len {α : Type} {r : Rp α} {H : Hp} {base : Option Addr} {m cap : Nat} {xs : List α} (h : (rpSl r).rd H [.slice base m cap] xs) : m = xs.length ∧ xs.length ≤ 9223372036854775807 := by
 obtain ⟨_, _, e, h1, _⟩ := h; cases e; exact ⟨rfl, h1.2⟩
theorem take_step {α : Type} (xs : List α) (k : Nat) (z : α) (h : k < xs.length) : (xs.take k ++ List.replicate (xs.length - k) z).set k (xs[k]?.getD z) = xs.take (k + 1) ++ List.replicate (xs.length - (k + 1)) z := by
 rw [List.getElem?_eq_getElem h, Option.getD_some]
 obtain ⟨j, hj⟩ : ∃ j, xs.length - k = j + 1 := ⟨xs.length - k - 1, by omega⟩
 rw [List.set_append_right _ _ (by rw [List.length_take]; omega), hj, show xs.length - (k + 1) = j by omega, List.length_take, show k - min k xs.length = 0 by omega, List.replicate_succ, List.set_cons_zero, ← List.take_append_getElem h, List.append_assoc, List.singleton_append]
theorem take_stepz {α : Type} (xs : List α) (k : Nat) (z z' : α) (h : k < xs.length) : (xs.take k ++ List.replicate (xs.length - k) z').set k (xs[k]?.getD z) = xs.take (k + 1) ++ List.replicate (xs.length - (k + 1)) z' := by
 rw [← take_step xs k z' h, List.getElem?_eq_getElem h, Option.getD_some, Option.getD_some]
theorem eq_step {α : Type} {xs ys : List α} {k : Nat} (z : α) (h : xs.length = ys.length) (he : xs.take k = ys.take k) (hk : k < xs.length) (e : xs[k]?.getD z = ys[k]?.getD z) : xs.take (k + 1) = ys.take (k + 1) := by
 rw [List.getElem?_eq_getElem hk, List.getElem?_eq_getElem (by omega)] at e
 rw [← List.take_append_getElem hk, ← List.take_append_getElem (by omega : k < ys.length), he]
 have e' : xs[k] = ys[k]'(by omega) := e
 rw [e']
def dgs : Nat → Nat → ByteArray → ByteArray
 | 0, _, out => out
 | f + 1, k, out => if k = 0 then out else dgs f (k / 10) (⟨#[UInt8.ofNat (48 + k % 10)]⟩ ++ out)
def mtx (k : Int) : ByteArray := if k ≤ 0 then ⟨#[109, 48]⟩ else ⟨#[109]⟩ ++ dgs 20 k.toNat .empty
def gS : Gt ByteArray := flStr.gt mtx fun s => s.size
theorem gS_ow {x : ByteArray} (h : x.size ≤ 9223372036854775807) : gS.ow [.string x] x [] := ⟨rfl, h, rfl⟩
theorem gY_owM (k : Int) : gY.ow [.int .u8 (IntKind.u8.wrap k)] (UInt8.ofNat (k % 256).toNat) [] := by
 refine ⟨?_, trivial, rfl⟩
 show [Value.int .u8 _] = [Value.int .u8 _]
 have : IntKind.u8.wrap k = ((UInt8.ofNat (k % 256).toNat).toNat : Int) := by
  unfold IntKind.wrap
  simp only [IntKind.bits, IntKind.signed]
  simp
  omega
 rw [this]
section
variable {α : Type}
def szE (g : Gt α) : List α → Nat
 | [] => 0
 | x :: r => g.sz x + szE g r
theorem szL_eq (g : Gt α) : ∀ xs, szL g xs = xs.length + szE g xs
 | [] => rfl
 | x :: r => by rw [szL, szE, szL_eq g r, List.length_cons]; omega
theorem szE_app (g : Gt α) : ∀ xs ys, szE g (xs ++ ys) = szE g xs + szE g ys
 | [], ys => by simp [szE]
 | x :: r, ys => by simp [szE, szE_app g r]; omega
theorem szE_step (g : Gt α) (xs : List α) (k : Nat) (z : α) (h : k < xs.length) : szE g (xs.take (k + 1)) = szE g (xs.take k) + g.sz (xs[k]?.getD z) := by
 rw [← List.take_append_getElem h, szE_app, List.getElem?_eq_getElem h]; rfl
theorem szE_le (g : Gt α) (xs : List α) (k : Nat) : szE g (xs.take k) ≤ szE g xs := by
 conv => rhs; rw [← List.take_append_drop k xs]
 rw [szE_app]; omega
theorem pair_at {β : Type} {g : Gt α} {h : Gt β} {H : Hp} {cs : List Value} {off : Nat} {x : α} {y : β} (h1 : g.rd H ((cs.drop off).take g.size) x) (h2 : h.rd H ((cs.drop (off + g.size)).take h.size) y) :
  (gPair g h).rd H ((cs.drop off).take (g.size + h.size)) (x, y) := by
 refine ⟨_, _, ?_, h1, h2⟩
 rw [List.take_add, List.drop_drop]
end
end
section
structure Item where
 row : List Int
 times : Int
deriving DecidableEq, Inhabited
def gItem : Gt Item := gIso (SX.gPair (gSl 3 gI) gI) (fun x => (x.row, x.times)) (fun p => ⟨p.1, p.2⟩)
theorem gItem_rd {H : Hp} {l : List Value} {x : Item} : gItem.rd H l x ↔ ∃ (b0 : Option Addr) (c0 : Nat), l = .slice b0 x.row.length c0 :: .int .i64 x.times :: [] ∧ (gSl 3 gI).rd H [.slice b0 x.row.length c0] x.row ∧ okI x.times := by
 constructor
 ·rintro ⟨m0, q0, rfl, h0, h1⟩
  obtain ⟨b0, c0, rfl, h0⟩ := sl_rd h0
  obtain ⟨rfl, w1⟩ := h1
  exact ⟨b0, c0, rfl, h0, w1⟩
 rintro ⟨b0, c0, rfl, h0, w1⟩
 exact ⟨[.slice b0 x.row.length c0], [.int .i64 x.times], rfl, h0, ⟨rfl, w1⟩⟩
theorem gItem_row : Fld gItem (gSl 3 gI) (fun x => x.row) (fun x y => { x with row := y }) 0 := (Fld.fst _ _).iso (fun _ => rfl) (fun _ _ => rfl)
theorem gItem_times : Fld gItem gI (fun x => x.times) (fun x y => { x with times := y }) 1 := (Fld.snd _ _).iso (fun _ => rfl) (fun _ _ => rfl)
theorem gItem_cnt (x : Item) : gItem.cnt x = cntL gI x.row + (1) := rfl
theorem gItem_mark (k : Int) (x : Item) : gItem.mark k x = ⟨mkL gI (k) x.row, k + cntL gI x.row⟩ := by
 have h : gItem.mark k x = ⟨mkL gI (k) x.row, (k + ((cntL gI x.row : Nat) : Int))⟩ := rfl
 rw [h] <;> simp
theorem Item.eq_iff {x y : Item} : x = y ↔ x.row = y.row ∧ x.times = y.times := by cases x; cases y; simp
structure Bag where
 items : List Item
deriving DecidableEq, Inhabited
def gBag : Gt Bag := gIso (gSl 134 gItem) (fun x => x.items) (fun p => ⟨p⟩)
theorem gBag_rd {H : Hp} {l : List Value} {x : Bag} : gBag.rd H l x ↔ ∃ (b0 : Option Addr) (c0 : Nat), l = .slice b0 x.items.length c0 :: [] ∧ (gSl 134 gItem).rd H [.slice b0 x.items.length c0] x.items := by
 constructor
 ·rintro h0
  obtain ⟨b0, c0, rfl, h0⟩ := sl_rd h0
  exact ⟨b0, c0, rfl, h0⟩
 rintro ⟨b0, c0, rfl, h0⟩
 exact h0
open Classical in
theorem gBag_ow {A : Hp} {l : List Value} {x : Bag} : gBag.ow l x A ↔ ∃ (b0 : Option Addr) (c0 : Nat) (A0 : Hp), l = .slice b0 x.items.length c0 :: [] ∧ A.Perm A0 ∧ (gSl 134 gItem).ow [.slice b0 x.items.length c0] x.items A0 := by
 constructor
 ·rintro h0
  obtain ⟨b0, c0, rfl, h0⟩ := sl_ow h0
  exact ⟨b0, c0, A, rfl, .refl _, h0⟩
 rintro ⟨b0, c0, A0, rfl, hp, h0⟩
 exact gBag.owp (l := _) (x := x) h0 hp
theorem gBag_cnt (x : Bag) : gBag.cnt x = cntL gItem x.items := rfl
theorem gBag_cntV (x : Bag) : gBag.cntV x = cntL gItem x.items := rfl
theorem gBag_mark (k : Int) (x : Bag) : gBag.mark k x = ⟨mkL gItem (k) x.items⟩ := by
 have h : gBag.mark k x = ⟨mkL gItem (k) x.items⟩ := rfl
 rw [h] <;> simp
theorem gBag_markV (k : Int) (x : Bag) : gBag.markV k x = ⟨mkL gItem (k) x.items⟩ := by
 have h : gBag.markV k x = ⟨mkL gItem (k) x.items⟩ := rfl
 rw [h] <;> simp
theorem Bag.eq_iff {x y : Bag} : x = y ↔ x.items = y.items := by cases x; cases y; simp
structure Piece where
 op : Int
 label : UInt8
 kids : List Int
deriving DecidableEq, Inhabited
def gPiece : Gt Piece := gIso (SX.gPair gI (SX.gPair gY (gSl 3 gI))) (fun x => (x.op, (x.label, x.kids))) (fun p => ⟨p.1, p.2.1, p.2.2⟩)
theorem gPiece_rd {H : Hp} {l : List Value} {x : Piece} : gPiece.rd H l x ↔ ∃ (b2 : Option Addr) (c2 : Nat), l = .int .i64 x.op :: .int .u8 (x.label).toNat :: .slice b2 x.kids.length c2 :: [] ∧ okI x.op ∧ (gSl 3 gI).rd H [.slice b2 x.kids.length c2] x.kids := by
 constructor
 ·rintro ⟨m0, q0, rfl, h0, m1, q1, rfl, h1, h2⟩
  obtain ⟨rfl, w0⟩ := h0
  obtain ⟨rfl, w1⟩ := h1
  obtain ⟨b2, c2, rfl, h2⟩ := sl_rd h2
  exact ⟨b2, c2, rfl, w0, h2⟩
 rintro ⟨b2, c2, rfl, w0, h2⟩
 exact ⟨[.int .i64 x.op], .int .u8 (x.label).toNat :: .slice b2 x.kids.length c2 :: [], rfl, ⟨rfl, w0⟩, ⟨[.int .u8 (x.label).toNat], [.slice b2 x.kids.length c2], rfl, ⟨rfl, trivial⟩, h2⟩⟩
open Classical in
theorem gPiece_ow {A : Hp} {l : List Value} {x : Piece} : gPiece.ow l x A ↔ ∃ (b2 : Option Addr) (c2 : Nat) (A2 : Hp), l = .int .i64 x.op :: .int .u8 (x.label).toNat :: .slice b2 x.kids.length c2 :: [] ∧ A.Perm A2 ∧ okI x.op ∧ (gSl 3 gI).ow [.slice b2 x.kids.length c2] x.kids A2 := by
 constructor
 ·rintro ⟨m0, q0, D0, E0, rfl, p0, h0, m1, q1, D1, E1, rfl, p1, h1, h2⟩
  obtain ⟨rfl, w0, e0⟩ := h0
  subst e0
  obtain ⟨rfl, w1, e1⟩ := h1
  subst e1
  obtain ⟨b2, c2, rfl, h2⟩ := sl_ow h2
  exact ⟨b2, c2, E1, rfl, (perm_cnt fun a => by have e0 := p0.count_eq a; have e1 := p1.count_eq a; simp only [List.count_append, List.count_nil] at *; omega), w0, h2⟩
 rintro ⟨b2, c2, A2, rfl, hp, w0, h2⟩
 exact ⟨[.int .i64 x.op], .int .u8 (x.label).toNat :: .slice b2 x.kids.length c2 :: [], [], ([] ++ A2), rfl, (perm_cnt fun a => by have e := hp.count_eq a; simp only [List.count_append, List.count_nil] at *; omega), ⟨rfl, w0, rfl⟩, ⟨[.int .u8 (x.label).toNat], [.slice b2 x.kids.length c2], [], A2, rfl, .refl _, ⟨rfl, trivial, rfl⟩, h2⟩⟩
theorem Piece.eq_iff {x y : Piece} : x = y ↔ x.op = y.op ∧ x.label = y.label ∧ x.kids = y.kids := by cases x; cases y; simp
structure Path where
 pieces : List Piece
deriving DecidableEq, Inhabited
def gPath : Gt Path := gIso (gSl 279 gPiece) (fun x => x.pieces) (fun p => ⟨p⟩)
theorem gPath_rd {H : Hp} {l : List Value} {x : Path} : gPath.rd H l x ↔ ∃ (b0 : Option Addr) (c0 : Nat), l = .slice b0 x.pieces.length c0 :: [] ∧ (gSl 279 gPiece).rd H [.slice b0 x.pieces.length c0] x.pieces := by
 constructor
 ·rintro h0
  obtain ⟨b0, c0, rfl, h0⟩ := sl_rd h0
  exact ⟨b0, c0, rfl, h0⟩
 rintro ⟨b0, c0, rfl, h0⟩
 exact h0
theorem Path.eq_iff {x y : Path} : x = y ↔ x.pieces = y.pieces := by cases x; cases y; simp
structure Arc where
 from' : Int
 label : UInt8
 to : Int
deriving DecidableEq, Inhabited
def gArc : Gt Arc := gIso (SX.gPair gI (SX.gPair gY gI)) (fun x => (x.from', (x.label, x.to))) (fun p => ⟨p.1, p.2.1, p.2.2⟩)
theorem gArc_rd {H : Hp} {l : List Value} {x : Arc} : gArc.rd H l x ↔ l = .int .i64 x.from' :: .int .u8 (x.label).toNat :: .int .i64 x.to :: [] ∧ okI x.from' ∧ okI x.to := by
 constructor
 ·rintro ⟨m0, q0, rfl, h0, m1, q1, rfl, h1, h2⟩
  obtain ⟨rfl, w0⟩ := h0
  obtain ⟨rfl, w1⟩ := h1
  obtain ⟨rfl, w2⟩ := h2
  exact ⟨rfl, w0, w2⟩
 rintro ⟨rfl, w0, w2⟩
 exact ⟨[.int .i64 x.from'], .int .u8 (x.label).toNat :: .int .i64 x.to :: [], rfl, ⟨rfl, w0⟩, ⟨[.int .u8 (x.label).toNat], [.int .i64 x.to], rfl, ⟨rfl, trivial⟩, ⟨rfl, w2⟩⟩⟩
open Classical in
theorem gArc_ow {A : Hp} {l : List Value} {x : Arc} : gArc.ow l x A ↔ l = .int .i64 x.from' :: .int .u8 (x.label).toNat :: .int .i64 x.to :: [] ∧ A.Perm [] ∧ okI x.from' ∧ okI x.to := by
 constructor
 ·rintro ⟨m0, q0, D0, E0, rfl, p0, h0, m1, q1, D1, E1, rfl, p1, h1, h2⟩
  obtain ⟨rfl, w0, e0⟩ := h0
  subst e0
  obtain ⟨rfl, w1, e1⟩ := h1
  subst e1
  obtain ⟨rfl, w2, e2⟩ := h2
  subst e2
  exact ⟨rfl, (perm_cnt fun a => by have e0 := p0.count_eq a; have e1 := p1.count_eq a; simp only [List.count_append, List.count_nil] at *; omega), w0, w2⟩
 rintro ⟨rfl, hp, w0, w2⟩
 exact ⟨[.int .i64 x.from'], .int .u8 (x.label).toNat :: .int .i64 x.to :: [], [], ([] ++ []), rfl, (perm_cnt fun a => by have e := hp.count_eq a; simp only [List.count_append, List.count_nil] at *; omega), ⟨rfl, w0, rfl⟩, ⟨[.int .u8 (x.label).toNat], [.int .i64 x.to], [], [], rfl, .refl _, ⟨rfl, trivial, rfl⟩, ⟨rfl, w2, rfl⟩⟩⟩
theorem Arc.eq_iff {x y : Arc} : x = y ↔ x.from' = y.from' ∧ x.label = y.label ∧ x.to = y.to := by cases x; cases y; simp
theorem gArc_own {H : Hp} {l : List Value} {x : Arc} (h : gArc.rd H l x) : gArc.ow l x [] := by
 obtain ⟨rfl, w0, w2⟩ := gArc_rd.1 h
 exact gArc_ow.2 ⟨rfl, by simp, w0, w2⟩
structure Nfa where
 states : Int
 arcs : List Arc
 ends : List Bool
deriving DecidableEq, Inhabited
def gNfa : Gt Nfa := gIso (SX.gPair gI (SX.gPair (gSl 282 gArc) (gSl 4 gB))) (fun x => (x.states, (x.arcs, x.ends))) (fun p => ⟨p.1, p.2.1, p.2.2⟩)
theorem gNfa_rd {H : Hp} {l : List Value} {x : Nfa} : gNfa.rd H l x ↔ ∃ (b1 : Option Addr) (c1 : Nat) (b2 : Option Addr) (c2 : Nat), l = .int .i64 x.states :: .slice b1 x.arcs.length c1 :: .slice b2 x.ends.length c2 :: [] ∧ okI x.states ∧ (gSl 282 gArc).rd H [.slice b1 x.arcs.length c1] x.arcs ∧ (gSl 4 gB).rd H [.slice b2 x.ends.length c2] x.ends := by
 constructor
 ·rintro ⟨m0, q0, rfl, h0, m1, q1, rfl, h1, h2⟩
  obtain ⟨rfl, w0⟩ := h0
  obtain ⟨b1, c1, rfl, h1⟩ := sl_rd h1
  obtain ⟨b2, c2, rfl, h2⟩ := sl_rd h2
  exact ⟨b1, c1, b2, c2, rfl, w0, h1, h2⟩
 rintro ⟨b1, c1, b2, c2, rfl, w0, h1, h2⟩
 exact ⟨[.int .i64 x.states], .slice b1 x.arcs.length c1 :: .slice b2 x.ends.length c2 :: [], rfl, ⟨rfl, w0⟩, ⟨[.slice b1 x.arcs.length c1], [.slice b2 x.ends.length c2], rfl, h1, h2⟩⟩
open Classical in
theorem gNfa_ow {A : Hp} {l : List Value} {x : Nfa} : gNfa.ow l x A ↔ ∃ (b1 : Option Addr) (c1 : Nat) (A1 : Hp) (b2 : Option Addr) (c2 : Nat) (A2 : Hp), l = .int .i64 x.states :: .slice b1 x.arcs.length c1 :: .slice b2 x.ends.length c2 :: [] ∧ A.Perm (A1 ++ A2) ∧ okI x.states ∧ (gSl 282 gArc).ow [.slice b1 x.arcs.length c1] x.arcs A1 ∧ (gSl 4 gB).ow [.slice b2 x.ends.length c2] x.ends A2 := by
 constructor
 ·rintro ⟨m0, q0, D0, E0, rfl, p0, h0, m1, q1, D1, E1, rfl, p1, h1, h2⟩
  obtain ⟨rfl, w0, e0⟩ := h0
  subst e0
  obtain ⟨b1, c1, rfl, h1⟩ := sl_ow h1
  obtain ⟨b2, c2, rfl, h2⟩ := sl_ow h2
  exact ⟨b1, c1, D1, b2, c2, E1, rfl, (perm_cnt fun a => by have e0 := p0.count_eq a; have e1 := p1.count_eq a; simp only [List.count_append, List.count_nil] at *; omega), w0, h1, h2⟩
 rintro ⟨b1, c1, A1, b2, c2, A2, rfl, hp, w0, h1, h2⟩
 exact ⟨[.int .i64 x.states], .slice b1 x.arcs.length c1 :: .slice b2 x.ends.length c2 :: [], [], (A1 ++ A2), rfl, (perm_cnt fun a => by have e := hp.count_eq a; simp only [List.count_append, List.count_nil] at *; omega), ⟨rfl, w0, rfl⟩, ⟨[.slice b1 x.arcs.length c1], [.slice b2 x.ends.length c2], A1, A2, rfl, .refl _, h1, h2⟩⟩
def zNfa : Nfa := ⟨0, [], []⟩
theorem zNfa_ow : gNfa.ow [.int .i64 0, .slice none 0 0, .slice none 0 0] zNfa [] := gNfa_ow.2 ⟨none, 0, [], none, 0, [], rfl, by simp, by first | (unfold okI; decide) | decide, sl_nil _ _ _, sl_nil _ _ _⟩
theorem Nfa.eq_iff {x y : Nfa} : x = y ↔ x.states = y.states ∧ x.arcs = y.arcs ∧ x.ends = y.ends := by cases x; cases y; simp
structure Atom where
 from' : ByteArray
 path : ByteArray
 to : ByteArray
deriving DecidableEq, Inhabited
def gAtom : Gt Atom := gIso (SX.gPair gS (SX.gPair gS gS)) (fun x => (x.from', (x.path, x.to))) (fun p => ⟨p.1, p.2.1, p.2.2⟩)
theorem gAtom_rd {H : Hp} {l : List Value} {x : Atom} : gAtom.rd H l x ↔ l = .string x.from' :: .string x.path :: .string x.to :: [] ∧ x.from'.size ≤ 9223372036854775807 ∧ x.path.size ≤ 9223372036854775807 ∧ x.to.size ≤ 9223372036854775807 := by
 constructor
 ·rintro ⟨m0, q0, rfl, h0, m1, q1, rfl, h1, h2⟩
  obtain ⟨rfl, w0⟩ := h0
  obtain ⟨rfl, w1⟩ := h1
  obtain ⟨rfl, w2⟩ := h2
  exact ⟨rfl, w0, w1, w2⟩
 rintro ⟨rfl, w0, w1, w2⟩
 exact ⟨[.string x.from'], .string x.path :: .string x.to :: [], rfl, ⟨rfl, w0⟩, ⟨[.string x.path], [.string x.to], rfl, ⟨rfl, w1⟩, ⟨rfl, w2⟩⟩⟩
open Classical in
theorem gAtom_ow {A : Hp} {l : List Value} {x : Atom} : gAtom.ow l x A ↔ l = .string x.from' :: .string x.path :: .string x.to :: [] ∧ A.Perm [] ∧ x.from'.size ≤ 9223372036854775807 ∧ x.path.size ≤ 9223372036854775807 ∧ x.to.size ≤ 9223372036854775807 := by
 constructor
 ·rintro ⟨m0, q0, D0, E0, rfl, p0, h0, m1, q1, D1, E1, rfl, p1, h1, h2⟩
  obtain ⟨rfl, w0, e0⟩ := h0
  subst e0
  obtain ⟨rfl, w1, e1⟩ := h1
  subst e1
  obtain ⟨rfl, w2, e2⟩ := h2
  subst e2
  exact ⟨rfl, (perm_cnt fun a => by have e0 := p0.count_eq a; have e1 := p1.count_eq a; simp only [List.count_append, List.count_nil] at *; omega), w0, w1, w2⟩
 rintro ⟨rfl, hp, w0, w1, w2⟩
 exact ⟨[.string x.from'], .string x.path :: .string x.to :: [], [], ([] ++ []), rfl, (perm_cnt fun a => by have e := hp.count_eq a; simp only [List.count_append, List.count_nil] at *; omega), ⟨rfl, w0, rfl⟩, ⟨[.string x.path], [.string x.to], [], [], rfl, .refl _, ⟨rfl, w1, rfl⟩, ⟨rfl, w2, rfl⟩⟩⟩
theorem opens_Atom : Opens prog gAtom.toRp 149 := by
 intro H' enc w H sp hd fuel cs d ps hcov ht
 obtain ⟨h1, h2⟩ := trod_fields ty149_ok.1 ht
 obtain ⟨_, _, t0⟩ := h2 0 0 9 rfl
 obtain ⟨x0, r0⟩ := (opens_fs ty9_ok.1) _ _ H _ _ _ _ _ _ hcov t0
 rw [show prog.cellsOf 9 = 1 by kernel_rfl] at r0
 obtain ⟨_, _, t1⟩ := h2 1 1 9 rfl
 obtain ⟨x1, r1⟩ := (opens_fs ty9_ok.1) _ _ H _ _ _ _ _ _ hcov t1
 rw [show prog.cellsOf 9 = 1 by kernel_rfl] at r1
 obtain ⟨_, _, t2⟩ := h2 2 2 9 rfl
 obtain ⟨x2, r2⟩ := (opens_fs ty9_ok.1) _ _ H _ _ _ _ _ _ hcov t2
 rw [show prog.cellsOf 9 = 1 by kernel_rfl] at r2
 rw [show prog.cellsOf 149 = 3 by kernel_rfl] at h1
 have key : gAtom.rd H ((cs.drop 0).take 3) ⟨x0, x1, x2⟩ := (pair_at (g := gS) (h := (SX.gPair gS gS)) (off := 0) r0 (pair_at (g := gS) (h := gS) (off := 1) r1 r2))
 rw [List.drop_zero, List.take_of_length_le (by omega)] at key
 exact ⟨_, key⟩
def zAtom : Atom := ⟨ByteArray.empty, ByteArray.empty, ByteArray.empty⟩
theorem zAtom_ow : gAtom.ow [.string .empty, .string .empty, .string .empty] zAtom [] := gAtom_ow.2 ⟨rfl, by simp, by first | (unfold okI; decide) | decide, by first | (unfold okI; decide) | decide, by first | (unfold okI; decide) | decide⟩
theorem gAtom_from : Fld gAtom gS (fun x => x.from') (fun x y => { x with from' := y }) 0 := (Fld.fst _ _).iso (fun _ => rfl) (fun _ _ => rfl)
theorem gAtom_path : Fld gAtom gS (fun x => x.path) (fun x y => { x with path := y }) 1 := ((Fld.snd _ _).comp (Fld.fst _ _)).iso (fun _ => rfl) (fun _ _ => rfl)
theorem gAtom_to : Fld gAtom gS (fun x => x.to) (fun x y => { x with to := y }) 2 := ((Fld.snd _ _).comp (Fld.snd _ _)).iso (fun _ => rfl) (fun _ _ => rfl)
theorem gAtom_sz (x : Atom) : gAtom.sz x = x.from'.size + (x.path.size + (x.to.size)) := rfl
theorem gAtom_cnt (x : Atom) : gAtom.cnt x = 1 + (1 + (1)) := rfl
theorem gAtom_mark (k : Int) (x : Atom) : gAtom.mark k x = ⟨mtx (k), mtx (k + 1), mtx (k + 1 + 1)⟩ := by
 have h : gAtom.mark k x = ⟨mtx (k), mtx ((k + ((1 : Nat) : Int))), mtx (((k + ((1 : Nat) : Int)) + ((1 : Nat) : Int)))⟩ := rfl
 rw [h] <;> simp
theorem Atom.eq_iff {x y : Atom} : x = y ↔ x.from' = y.from' ∧ x.path = y.path ∧ x.to = y.to := by cases x; cases y; simp
structure Filter where
 left : ByteArray
 op : Int
 right : ByteArray
 num : Int
deriving DecidableEq, Inhabited
def gFilter : Gt Filter := gIso (SX.gPair gS (SX.gPair gI (SX.gPair gS gI))) (fun x => (x.left, (x.op, (x.right, x.num)))) (fun p => ⟨p.1, p.2.1, p.2.2.1, p.2.2.2⟩)
theorem gFilter_rd {H : Hp} {l : List Value} {x : Filter} : gFilter.rd H l x ↔ l = .string x.left :: .int .i64 x.op :: .string x.right :: .int .i64 x.num :: [] ∧ x.left.size ≤ 9223372036854775807 ∧ okI x.op ∧ x.right.size ≤ 9223372036854775807 ∧ okI x.num := by
 constructor
 ·rintro ⟨m0, q0, rfl, h0, m1, q1, rfl, h1, m2, q2, rfl, h2, h3⟩
  obtain ⟨rfl, w0⟩ := h0
  obtain ⟨rfl, w1⟩ := h1
  obtain ⟨rfl, w2⟩ := h2
  obtain ⟨rfl, w3⟩ := h3
  exact ⟨rfl, w0, w1, w2, w3⟩
 rintro ⟨rfl, w0, w1, w2, w3⟩
 exact ⟨[.string x.left], .int .i64 x.op :: .string x.right :: .int .i64 x.num :: [], rfl, ⟨rfl, w0⟩, ⟨[.int .i64 x.op], .string x.right :: .int .i64 x.num :: [], rfl, ⟨rfl, w1⟩, ⟨[.string x.right], [.int .i64 x.num], rfl, ⟨rfl, w2⟩, ⟨rfl, w3⟩⟩⟩⟩
open Classical in
theorem gFilter_ow {A : Hp} {l : List Value} {x : Filter} : gFilter.ow l x A ↔ l = .string x.left :: .int .i64 x.op :: .string x.right :: .int .i64 x.num :: [] ∧ A.Perm [] ∧ x.left.size ≤ 9223372036854775807 ∧ okI x.op ∧ x.right.size ≤ 9223372036854775807 ∧ okI x.num := by
 constructor
 ·rintro ⟨m0, q0, D0, E0, rfl, p0, h0, m1, q1, D1, E1, rfl, p1, h1, m2, q2, D2, E2, rfl, p2, h2, h3⟩
  obtain ⟨rfl, w0, e0⟩ := h0
  subst e0
  obtain ⟨rfl, w1, e1⟩ := h1
  subst e1
  obtain ⟨rfl, w2, e2⟩ := h2
  subst e2
  obtain ⟨rfl, w3, e3⟩ := h3
  subst e3
  exact ⟨rfl, (perm_cnt fun a => by have e0 := p0.count_eq a; have e1 := p1.count_eq a; have e2 := p2.count_eq a; simp only [List.count_append, List.count_nil] at *; omega), w0, w1, w2, w3⟩
 rintro ⟨rfl, hp, w0, w1, w2, w3⟩
 exact ⟨[.string x.left], .int .i64 x.op :: .string x.right :: .int .i64 x.num :: [], [], ([] ++ ([] ++ [])), rfl, (perm_cnt fun a => by have e := hp.count_eq a; simp only [List.count_append, List.count_nil] at *; omega), ⟨rfl, w0, rfl⟩, ⟨[.int .i64 x.op], .string x.right :: .int .i64 x.num :: [], [], ([] ++ []), rfl, .refl _, ⟨rfl, w1, rfl⟩, ⟨[.string x.right], [.int .i64 x.num], [], [], rfl, .refl _, ⟨rfl, w2, rfl⟩, ⟨rfl, w3, rfl⟩⟩⟩⟩
theorem opens_Filter : Opens prog gFilter.toRp 152 := by
 intro H' enc w H sp hd fuel cs d ps hcov ht
 obtain ⟨h1, h2⟩ := trod_fields ty152_ok.1 ht
 obtain ⟨_, _, t0⟩ := h2 0 0 9 rfl
 obtain ⟨x0, r0⟩ := (opens_fs ty9_ok.1) _ _ H _ _ _ _ _ _ hcov t0
 rw [show prog.cellsOf 9 = 1 by kernel_rfl] at r0
 obtain ⟨_, _, t1⟩ := h2 1 1 3 rfl
 obtain ⟨x1, r1⟩ := (opens_fi ty3_ok.1) _ _ H _ _ _ _ _ _ hcov t1
 rw [show prog.cellsOf 3 = 1 by kernel_rfl] at r1
 obtain ⟨_, _, t2⟩ := h2 2 2 9 rfl
 obtain ⟨x2, r2⟩ := (opens_fs ty9_ok.1) _ _ H _ _ _ _ _ _ hcov t2
 rw [show prog.cellsOf 9 = 1 by kernel_rfl] at r2
 obtain ⟨_, _, t3⟩ := h2 3 3 3 rfl
 obtain ⟨x3, r3⟩ := (opens_fi ty3_ok.1) _ _ H _ _ _ _ _ _ hcov t3
 rw [show prog.cellsOf 3 = 1 by kernel_rfl] at r3
 rw [show prog.cellsOf 152 = 4 by kernel_rfl] at h1
 have key : gFilter.rd H ((cs.drop 0).take 4) ⟨x0, x1, x2, x3⟩ := (pair_at (g := gS) (h := (SX.gPair gI (SX.gPair gS gI))) (off := 0) r0 (pair_at (g := gI) (h := (SX.gPair gS gI)) (off := 1) r1 (pair_at (g := gS) (h := gI) (off := 2) r2 r3)))
 rw [List.drop_zero, List.take_of_length_le (by omega)] at key
 exact ⟨_, key⟩
def zFilter : Filter := ⟨ByteArray.empty, 0, ByteArray.empty, 0⟩
theorem zFilter_ow : gFilter.ow [.string .empty, .int .i64 0, .string .empty, .int .i64 0] zFilter [] := gFilter_ow.2 ⟨rfl, by simp, by first | (unfold okI; decide) | decide, by first | (unfold okI; decide) | decide, by first | (unfold okI; decide) | decide, by first | (unfold okI; decide) | decide⟩
theorem gFilter_left : Fld gFilter gS (fun x => x.left) (fun x y => { x with left := y }) 0 := (Fld.fst _ _).iso (fun _ => rfl) (fun _ _ => rfl)
theorem gFilter_op : Fld gFilter gI (fun x => x.op) (fun x y => { x with op := y }) 1 := ((Fld.snd _ _).comp (Fld.fst _ _)).iso (fun _ => rfl) (fun _ _ => rfl)
theorem gFilter_right : Fld gFilter gS (fun x => x.right) (fun x y => { x with right := y }) 2 := ((Fld.snd _ _).comp ((Fld.snd _ _).comp (Fld.fst _ _))).iso (fun _ => rfl) (fun _ _ => rfl)
theorem gFilter_num : Fld gFilter gI (fun x => x.num) (fun x y => { x with num := y }) 3 := ((Fld.snd _ _).comp ((Fld.snd _ _).comp (Fld.snd _ _))).iso (fun _ => rfl) (fun _ _ => rfl)
theorem gFilter_sz (x : Filter) : gFilter.sz x = x.left.size + (0 + (x.right.size + (0))) := rfl
theorem gFilter_cnt (x : Filter) : gFilter.cnt x = 1 + (1 + (1 + (1))) := rfl
theorem gFilter_mark (k : Int) (x : Filter) : gFilter.mark k x = ⟨mtx (k), k + 1, mtx (k + 1 + 1), k + 1 + 1 + 1⟩ := by
 have h : gFilter.mark k x = ⟨mtx (k), (k + ((1 : Nat) : Int)), mtx (((k + ((1 : Nat) : Int)) + ((1 : Nat) : Int))), (((k + ((1 : Nat) : Int)) + ((1 : Nat) : Int)) + ((1 : Nat) : Int))⟩ := rfl
 rw [h] <;> simp
theorem Filter.eq_iff {x y : Filter} : x = y ↔ x.left = y.left ∧ x.op = y.op ∧ x.right = y.right ∧ x.num = y.num := by cases x; cases y; simp
structure Query where
 each : Bool
 out : List ByteArray
 atoms : List Atom
 filters : List Filter
deriving DecidableEq, Inhabited
def gQuery : Gt Query := gIso (SX.gPair gB (SX.gPair (gSl 9 gS) (SX.gPair (gSl 154 gAtom) (gSl 157 gFilter)))) (fun x => (x.each, (x.out, (x.atoms, x.filters)))) (fun p => ⟨p.1, p.2.1, p.2.2.1, p.2.2.2⟩)
theorem gQuery_rd {H : Hp} {l : List Value} {x : Query} : gQuery.rd H l x ↔ ∃ (b1 : Option Addr) (c1 : Nat) (b2 : Option Addr) (c2 : Nat) (b3 : Option Addr) (c3 : Nat), l = .bool x.each :: .slice b1 x.out.length c1 :: .slice b2 x.atoms.length c2 :: .slice b3 x.filters.length c3 :: [] ∧ (gSl 9 gS).rd H [.slice b1 x.out.length c1] x.out ∧ (gSl 154 gAtom).rd H [.slice b2 x.atoms.length c2] x.atoms ∧ (gSl 157 gFilter).rd H [.slice b3 x.filters.length c3] x.filters := by
 constructor
 ·rintro ⟨m0, q0, rfl, h0, m1, q1, rfl, h1, m2, q2, rfl, h2, h3⟩
  obtain ⟨rfl, w0⟩ := h0
  obtain ⟨b1, c1, rfl, h1⟩ := sl_rd h1
  obtain ⟨b2, c2, rfl, h2⟩ := sl_rd h2
  obtain ⟨b3, c3, rfl, h3⟩ := sl_rd h3
  exact ⟨b1, c1, b2, c2, b3, c3, rfl, h1, h2, h3⟩
 rintro ⟨b1, c1, b2, c2, b3, c3, rfl, h1, h2, h3⟩
 exact ⟨[.bool x.each], .slice b1 x.out.length c1 :: .slice b2 x.atoms.length c2 :: .slice b3 x.filters.length c3 :: [], rfl, ⟨rfl, trivial⟩, ⟨[.slice b1 x.out.length c1], .slice b2 x.atoms.length c2 :: .slice b3 x.filters.length c3 :: [], rfl, h1, ⟨[.slice b2 x.atoms.length c2], [.slice b3 x.filters.length c3], rfl, h2, h3⟩⟩⟩
open Classical in
theorem gQuery_ow {A : Hp} {l : List Value} {x : Query} : gQuery.ow l x A ↔ ∃ (b1 : Option Addr) (c1 : Nat) (A1 : Hp) (b2 : Option Addr) (c2 : Nat) (A2 : Hp) (b3 : Option Addr) (c3 : Nat) (A3 : Hp), l = .bool x.each :: .slice b1 x.out.length c1 :: .slice b2 x.atoms.length c2 :: .slice b3 x.filters.length c3 :: [] ∧ A.Perm (A1 ++ (A2 ++ A3)) ∧ (gSl 9 gS).ow [.slice b1 x.out.length c1] x.out A1 ∧ (gSl 154 gAtom).ow [.slice b2 x.atoms.length c2] x.atoms A2 ∧ (gSl 157 gFilter).ow [.slice b3 x.filters.length c3] x.filters A3 := by
 constructor
 ·rintro ⟨m0, q0, D0, E0, rfl, p0, h0, m1, q1, D1, E1, rfl, p1, h1, m2, q2, D2, E2, rfl, p2, h2, h3⟩
  obtain ⟨rfl, w0, e0⟩ := h0
  subst e0
  obtain ⟨b1, c1, rfl, h1⟩ := sl_ow h1
  obtain ⟨b2, c2, rfl, h2⟩ := sl_ow h2
  obtain ⟨b3, c3, rfl, h3⟩ := sl_ow h3
  exact ⟨b1, c1, D1, b2, c2, D2, b3, c3, E2, rfl, (perm_cnt fun a => by have e0 := p0.count_eq a; have e1 := p1.count_eq a; have e2 := p2.count_eq a; simp only [List.count_append, List.count_nil] at *; omega), h1, h2, h3⟩
 rintro ⟨b1, c1, A1, b2, c2, A2, b3, c3, A3, rfl, hp, h1, h2, h3⟩
 exact ⟨[.bool x.each], .slice b1 x.out.length c1 :: .slice b2 x.atoms.length c2 :: .slice b3 x.filters.length c3 :: [], [], (A1 ++ (A2 ++ A3)), rfl, (perm_cnt fun a => by have e := hp.count_eq a; simp only [List.count_append, List.count_nil] at *; omega), ⟨rfl, trivial, rfl⟩, ⟨[.slice b1 x.out.length c1], .slice b2 x.atoms.length c2 :: .slice b3 x.filters.length c3 :: [], A1, (A2 ++ A3), rfl, .refl _, h1, ⟨[.slice b2 x.atoms.length c2], [.slice b3 x.filters.length c3], A2, A3, rfl, .refl _, h2, h3⟩⟩⟩
theorem opens_Query : Opens prog gQuery.toRp 26 := by
 intro H' enc w H sp hd fuel cs d ps hcov ht
 obtain ⟨h1, h2⟩ := trod_fields ty26_ok.1 ht
 obtain ⟨_, _, t0⟩ := h2 0 0 4 rfl
 obtain ⟨x0, r0⟩ := (opens_fb ty4_ok.1) _ _ H _ _ _ _ _ _ hcov t0
 rw [show prog.cellsOf 4 = 1 by kernel_rfl] at r0
 obtain ⟨_, _, t1⟩ := h2 1 1 22 rfl
 obtain ⟨x1, r1⟩ := (opens_sl ty22_ok.1 (by kernel_rfl) (by decide) (opens_fs ty9_ok.1)) _ _ H _ _ _ _ _ _ hcov t1
 rw [show prog.cellsOf 22 = 1 by kernel_rfl] at r1
 obtain ⟨_, _, t2⟩ := h2 2 2 23 rfl
 obtain ⟨x2, r2⟩ := (opens_sl ty23_ok.1 (by kernel_rfl) (by decide) opens_Atom) _ _ H _ _ _ _ _ _ hcov t2
 rw [show prog.cellsOf 23 = 1 by kernel_rfl] at r2
 obtain ⟨_, _, t3⟩ := h2 3 3 24 rfl
 obtain ⟨x3, r3⟩ := (opens_sl ty24_ok.1 (by kernel_rfl) (by decide) opens_Filter) _ _ H _ _ _ _ _ _ hcov t3
 rw [show prog.cellsOf 24 = 1 by kernel_rfl] at r3
 rw [show prog.cellsOf 26 = 4 by kernel_rfl] at h1
 have key : gQuery.rd H ((cs.drop 0).take 4) ⟨x0, x1, x2, x3⟩ := (pair_at (g := gB) (h := (SX.gPair (gSl 9 gS) (SX.gPair (gSl 154 gAtom) (gSl 157 gFilter)))) (off := 0) r0 (pair_at (g := (gSl 9 gS)) (h := (SX.gPair (gSl 154 gAtom) (gSl 157 gFilter))) (off := 1) r1 (pair_at (g := (gSl 154 gAtom)) (h := (gSl 157 gFilter)) (off := 2) r2 r3)))
 rw [List.drop_zero, List.take_of_length_le (by omega)] at key
 exact ⟨_, key⟩
theorem gQuery_sz (x : Query) : gQuery.sz x = 0 + (szL gS x.out + (szL gAtom x.atoms + (szL gFilter x.filters))) := rfl
theorem gQuery_cntV (x : Query) : gQuery.cntV x = 0 + (cntL gS x.out + (cntL gAtom x.atoms + (cntL gFilter x.filters))) := rfl
theorem gQuery_markV (k : Int) (x : Query) : gQuery.markV k x = ⟨x.each, mkL gS (k) x.out, mkL gAtom (k + cntL gS x.out) x.atoms, mkL gFilter (k + cntL gS x.out + cntL gAtom x.atoms) x.filters⟩ := by
 have h : gQuery.markV k x = ⟨x.each, mkL gS ((k + ((0 : Nat) : Int))) x.out, mkL gAtom (((k + ((0 : Nat) : Int)) + ((cntL gS x.out : Nat) : Int))) x.atoms, mkL gFilter ((((k + ((0 : Nat) : Int)) + ((cntL gS x.out : Nat) : Int)) + ((cntL gAtom x.atoms : Nat) : Int))) x.filters⟩ := rfl
 rw [h] <;> simp
theorem Query.eq_iff {x y : Query} : x = y ↔ x.each = y.each ∧ x.out = y.out ∧ x.atoms = y.atoms ∧ x.filters = y.filters := by cases x; cases y; simp
structure File where
 name : ByteArray
 text : ByteArray
 kept : Int
deriving DecidableEq, Inhabited
theorem File.eq_iff {x y : File} : x = y ↔ x.name = y.name ∧ x.text = y.text ∧ x.kept = y.kept := by cases x; cases y; simp
structure Disk where
 files : List File
deriving DecidableEq, Inhabited
theorem Disk.eq_iff {x y : Disk} : x = y ↔ x.files = y.files := by cases x; cases y; simp
structure Walk where
 atom : Int
 src : Int
 at' : Int
 state : Int
deriving DecidableEq, Inhabited
theorem Walk.eq_iff {x y : Walk} : x = y ↔ x.atom = y.atom ∧ x.src = y.src ∧ x.at' = y.at' ∧ x.state = y.state := by cases x; cases y; simp
structure Letter where
 kind : Int
 atom : Int
 num : Int
 black : Bool
 walks : List Walk
 text : ByteArray
deriving DecidableEq, Inhabited
theorem Letter.eq_iff {x y : Letter} : x = y ↔ x.kind = y.kind ∧ x.atom = y.atom ∧ x.num = y.num ∧ x.black = y.black ∧ x.walks = y.walks ∧ x.text = y.text := by cases x; cases y; simp
structure Link where
 sent : List ByteArray
 acked : Int
 took : Int
deriving DecidableEq, Inhabited
theorem Link.eq_iff {x y : Link} : x = y ↔ x.sent = y.sent ∧ x.acked = y.acked ∧ x.took = y.took := by cases x; cases y; simp
structure Got where
 from' : Int
 atom : Int
 bag : Bag
deriving DecidableEq, Inhabited
def gGot : Gt Got := gIso (SX.gPair gI (SX.gPair gI gBag)) (fun x => (x.from', (x.atom, x.bag))) (fun p => ⟨p.1, p.2.1, p.2.2⟩)
theorem gGot_rd {H : Hp} {l : List Value} {x : Got} : gGot.rd H l x ↔ ∃ (l2 : List Value), l = .int .i64 x.from' :: .int .i64 x.atom :: l2 ++ ([]) ∧ okI x.from' ∧ okI x.atom ∧ gBag.rd H l2 x.bag := by
 constructor
 ·rintro ⟨m0, q0, rfl, h0, m1, q1, rfl, h1, h2⟩
  obtain ⟨rfl, w0⟩ := h0
  obtain ⟨rfl, w1⟩ := h1
  exact ⟨q1, (by simp [flInt, flBool, flByte, flStr]), w0, w1, h2⟩
 rintro ⟨l2, rfl, w0, w1, h2⟩
 exact ⟨[.int .i64 x.from'], .int .i64 x.atom :: l2 ++ ([]), rfl, ⟨rfl, w0⟩, ⟨[.int .i64 x.atom], l2, (by simp [flInt, flBool, flByte, flStr]), ⟨rfl, w1⟩, h2⟩⟩
theorem gGot_from : Fld gGot gI (fun x => x.from') (fun x y => { x with from' := y }) 0 := (Fld.fst _ _).iso (fun _ => rfl) (fun _ _ => rfl)
theorem gGot_atom : Fld gGot gI (fun x => x.atom) (fun x y => { x with atom := y }) 1 := ((Fld.snd _ _).comp (Fld.fst _ _)).iso (fun _ => rfl) (fun _ _ => rfl)
theorem gGot_bag : Fld gGot gBag (fun x => x.bag) (fun x y => { x with bag := y }) 2 := ((Fld.snd _ _).comp (Fld.snd _ _)).iso (fun _ => rfl) (fun _ _ => rfl)
theorem gGot_cnt (x : Got) : gGot.cnt x = 1 + (1 + (gBag.cnt x.bag)) := rfl
theorem gGot_mark (k : Int) (x : Got) : gGot.mark k x = ⟨k, k + 1, gBag.mark (k + 1 + 1) x.bag⟩ := by
 have h : gGot.mark k x = ⟨k, (k + ((1 : Nat) : Int)), gBag.mark (((k + ((1 : Nat) : Int)) + ((1 : Nat) : Int))) x.bag⟩ := rfl
 rw [h] <;> simp
theorem Got.eq_iff {x y : Got} : x = y ↔ x.from' = y.from' ∧ x.atom = y.atom ∧ x.bag = y.bag := by cases x; cases y; simp
structure Cell where
 query : Query
 shares : List Int
 at' : Int
 n : Int
 gots : List Got
deriving DecidableEq, Inhabited
theorem Cell.eq_iff {x y : Cell} : x = y ↔ x.query = y.query ∧ x.shares = y.shares ∧ x.at' = y.at' ∧ x.n = y.n ∧ x.gots = y.gots := by cases x; cases y; simp
structure Mail where
 peer : Int
 letter : Letter
deriving DecidableEq, Inhabited
theorem Mail.eq_iff {x y : Mail} : x = y ↔ x.peer = y.peer ∧ x.letter = y.letter := by cases x; cases y; simp
structure Work where
 begun : Bool
 query : Query
 shares : List Int
 count : Int
 seen : List Walk
 num : Int
 black : Bool
 holds : Bool
 tokNum : Int
 tokBlack : Bool
 walked : Bool
 cell : Cell
 told : Bool
 waits : List Mail
deriving DecidableEq, Inhabited
theorem Work.eq_iff {x y : Work} : x = y ↔ x.begun = y.begun ∧ x.query = y.query ∧ x.shares = y.shares ∧ x.count = y.count ∧ x.seen = y.seen ∧ x.num = y.num ∧ x.black = y.black ∧ x.holds = y.holds ∧ x.tokNum = y.tokNum ∧ x.tokBlack = y.tokBlack ∧ x.walked = y.walked ∧ x.cell = y.cell ∧ x.told = y.told ∧ x.waits = y.waits := by cases x; cases y; simp
structure Ask where
 on : Bool
 query : Query
 shares : List Int
 count : Int
 results : List Got
 over : Bool
 answer : Bag
deriving DecidableEq, Inhabited
def gAsk : Gt Ask := gIso (SX.gPair gB (SX.gPair gQuery (SX.gPair (gSl 3 gI) (SX.gPair gI (SX.gPair (gSl 171 gGot) (SX.gPair gB gBag)))))) (fun x => (x.on, (x.query, (x.shares, (x.count, (x.results, (x.over, x.answer))))))) (fun p => ⟨p.1, p.2.1, p.2.2.1, p.2.2.2.1, p.2.2.2.2.1, p.2.2.2.2.2.1, p.2.2.2.2.2.2⟩)
theorem gAsk_rd {H : Hp} {l : List Value} {x : Ask} : gAsk.rd H l x ↔ ∃ (l1 : List Value) (b2 : Option Addr) (c2 : Nat) (b4 : Option Addr) (c4 : Nat) (l6 : List Value), l = .bool x.on :: l1 ++ (.slice b2 x.shares.length c2 :: .int .i64 x.count :: .slice b4 x.results.length c4 :: .bool x.over :: l6 ++ ([])) ∧ gQuery.rd H l1 x.query ∧ (gSl 3 gI).rd H [.slice b2 x.shares.length c2] x.shares ∧ okI x.count ∧ (gSl 171 gGot).rd H [.slice b4 x.results.length c4] x.results ∧ gBag.rd H l6 x.answer := by
 constructor
 ·rintro ⟨m0, q0, rfl, h0, m1, q1, rfl, h1, m2, q2, rfl, h2, m3, q3, rfl, h3, m4, q4, rfl, h4, m5, q5, rfl, h5, h6⟩
  obtain ⟨rfl, w0⟩ := h0
  obtain ⟨b2, c2, rfl, h2⟩ := sl_rd h2
  obtain ⟨rfl, w3⟩ := h3
  obtain ⟨b4, c4, rfl, h4⟩ := sl_rd h4
  obtain ⟨rfl, w5⟩ := h5
  exact ⟨m1, b2, c2, b4, c4, q5, (by simp [flInt, flBool, flByte, flStr]), h1, h2, w3, h4, h6⟩
 rintro ⟨l1, b2, c2, b4, c4, l6, rfl, h1, h2, w3, h4, h6⟩
 exact ⟨[.bool x.on], l1 ++ (.slice b2 x.shares.length c2 :: .int .i64 x.count :: .slice b4 x.results.length c4 :: .bool x.over :: l6 ++ ([])), rfl, ⟨rfl, trivial⟩, ⟨l1, .slice b2 x.shares.length c2 :: .int .i64 x.count :: .slice b4 x.results.length c4 :: .bool x.over :: l6 ++ ([]), rfl, h1, ⟨[.slice b2 x.shares.length c2], .int .i64 x.count :: .slice b4 x.results.length c4 :: .bool x.over :: l6 ++ ([]), rfl, h2, ⟨[.int .i64 x.count], .slice b4 x.results.length c4 :: .bool x.over :: l6 ++ ([]), rfl, ⟨rfl, w3⟩, ⟨[.slice b4 x.results.length c4], .bool x.over :: l6 ++ ([]), rfl, h4, ⟨[.bool x.over], l6, (by simp [flInt, flBool, flByte, flStr]), ⟨rfl, trivial⟩, h6⟩⟩⟩⟩⟩⟩
open Classical in
theorem gAsk_ow {A : Hp} {l : List Value} {x : Ask} : gAsk.ow l x A ↔ ∃ (l1 : List Value) (A1 : Hp) (b2 : Option Addr) (c2 : Nat) (A2 : Hp) (b4 : Option Addr) (c4 : Nat) (A4 : Hp) (l6 : List Value) (A6 : Hp), l = .bool x.on :: l1 ++ (.slice b2 x.shares.length c2 :: .int .i64 x.count :: .slice b4 x.results.length c4 :: .bool x.over :: l6 ++ ([])) ∧ A.Perm (A1 ++ (A2 ++ (A4 ++ A6))) ∧ gQuery.ow l1 x.query A1 ∧ (gSl 3 gI).ow [.slice b2 x.shares.length c2] x.shares A2 ∧ okI x.count ∧ (gSl 171 gGot).ow [.slice b4 x.results.length c4] x.results A4 ∧ gBag.ow l6 x.answer A6 := by
 constructor
 ·rintro ⟨m0, q0, D0, E0, rfl, p0, h0, m1, q1, D1, E1, rfl, p1, h1, m2, q2, D2, E2, rfl, p2, h2, m3, q3, D3, E3, rfl, p3, h3, m4, q4, D4, E4, rfl, p4, h4, m5, q5, D5, E5, rfl, p5, h5, h6⟩
  obtain ⟨rfl, w0, e0⟩ := h0
  subst e0
  obtain ⟨b2, c2, rfl, h2⟩ := sl_ow h2
  obtain ⟨rfl, w3, e3⟩ := h3
  subst e3
  obtain ⟨b4, c4, rfl, h4⟩ := sl_ow h4
  obtain ⟨rfl, w5, e5⟩ := h5
  subst e5
  exact ⟨m1, D1, b2, c2, D2, b4, c4, D4, q5, E5, (by simp [flInt, flBool, flByte, flStr]), (perm_cnt fun a => by have e0 := p0.count_eq a; have e1 := p1.count_eq a; have e2 := p2.count_eq a; have e3 := p3.count_eq a; have e4 := p4.count_eq a; have e5 := p5.count_eq a; simp only [List.count_append, List.count_nil] at *; omega), h1, h2, w3, h4, h6⟩
 rintro ⟨l1, A1, b2, c2, A2, b4, c4, A4, l6, A6, rfl, hp, h1, h2, w3, h4, h6⟩
 exact ⟨[.bool x.on], l1 ++ (.slice b2 x.shares.length c2 :: .int .i64 x.count :: .slice b4 x.results.length c4 :: .bool x.over :: l6 ++ ([])), [], (A1 ++ (A2 ++ ([] ++ (A4 ++ ([] ++ A6))))), rfl, (perm_cnt fun a => by have e := hp.count_eq a; simp only [List.count_append, List.count_nil] at *; omega), ⟨rfl, trivial, rfl⟩, ⟨l1, .slice b2 x.shares.length c2 :: .int .i64 x.count :: .slice b4 x.results.length c4 :: .bool x.over :: l6 ++ ([]), A1, (A2 ++ ([] ++ (A4 ++ ([] ++ A6)))), rfl, .refl _, h1, ⟨[.slice b2 x.shares.length c2], .int .i64 x.count :: .slice b4 x.results.length c4 :: .bool x.over :: l6 ++ ([]), A2, ([] ++ (A4 ++ ([] ++ A6))), rfl, .refl _, h2, ⟨[.int .i64 x.count], .slice b4 x.results.length c4 :: .bool x.over :: l6 ++ ([]), [], (A4 ++ ([] ++ A6)), rfl, .refl _, ⟨rfl, w3, rfl⟩, ⟨[.slice b4 x.results.length c4], .bool x.over :: l6 ++ ([]), A4, ([] ++ A6), rfl, .refl _, h4, ⟨[.bool x.over], l6, [], A6, (by simp [flInt, flBool, flByte, flStr]), .refl _, ⟨rfl, trivial, rfl⟩, h6⟩⟩⟩⟩⟩⟩
theorem gAsk_sz (x : Ask) : gAsk.sz x = 0 + (gQuery.sz x.query + (szL gI x.shares + (0 + (szL gGot x.results + (0 + (gBag.sz x.answer)))))) := rfl
theorem gAsk_cntV (x : Ask) : gAsk.cntV x = 0 + (gQuery.cntV x.query + (cntL gI x.shares + (0 + (cntL gGot x.results + (0 + (gBag.cntV x.answer)))))) := rfl
theorem gAsk_markV (k : Int) (x : Ask) : gAsk.markV k x = ⟨x.on, gQuery.markV (k) x.query, mkL gI (k + gQuery.cntV x.query) x.shares, x.count, mkL gGot (k + gQuery.cntV x.query + cntL gI x.shares) x.results, x.over, gBag.markV (k + gQuery.cntV x.query + cntL gI x.shares + cntL gGot x.results) x.answer⟩ := by
 have h : gAsk.markV k x = ⟨x.on, gQuery.markV ((k + ((0 : Nat) : Int))) x.query, mkL gI (((k + ((0 : Nat) : Int)) + ((gQuery.cntV x.query : Nat) : Int))) x.shares, x.count, mkL gGot (((((k + ((0 : Nat) : Int)) + ((gQuery.cntV x.query : Nat) : Int)) + ((cntL gI x.shares : Nat) : Int)) + ((0 : Nat) : Int))) x.results, x.over, gBag.markV (((((((k + ((0 : Nat) : Int)) + ((gQuery.cntV x.query : Nat) : Int)) + ((cntL gI x.shares : Nat) : Int)) + ((0 : Nat) : Int)) + ((cntL gGot x.results : Nat) : Int)) + ((0 : Nat) : Int))) x.answer⟩ := rfl
 rw [h] <;> simp
theorem Ask.eq_iff {x y : Ask} : x = y ↔ x.on = y.on ∧ x.query = y.query ∧ x.shares = y.shares ∧ x.count = y.count ∧ x.results = y.results ∧ x.over = y.over ∧ x.answer = y.answer := by cases x; cases y; simp
structure Node where
 id : Int
 up : Bool
 disk : Disk
 epoch : Int
 joined : Bool
 links : List Link
 work : Work
 ask : Ask
deriving DecidableEq, Inhabited
theorem Node.eq_iff {x y : Node} : x = y ↔ x.id = y.id ∧ x.up = y.up ∧ x.disk = y.disk ∧ x.epoch = y.epoch ∧ x.joined = y.joined ∧ x.links = y.links ∧ x.work = y.work ∧ x.ask = y.ask := by cases x; cases y; simp
structure Cluster where
 query : Query
 nodes : List Node
 net : List ByteArray
 codes : List Int
 replies : List Bag
deriving DecidableEq, Inhabited
theorem Cluster.eq_iff {x y : Cluster} : x = y ↔ x.query = y.query ∧ x.nodes = y.nodes ∧ x.net = y.net ∧ x.codes = y.codes ∧ x.replies = y.replies := by cases x; cases y; simp
end
section
theorem eqIntS_ct (b1 : Option Addr) (m1 c1 : Nat) (b2 : Option Addr) (m2 c2 : Nat) (xs ys : List Int) :
  Ct prog 41 [.slice b1 m1 c1, .slice b2 m2 c2] [] (fun H => (gSl 3 gI).rd H [.slice b1 m1 c1] xs ∧ (gSl 3 gI).rd H [.slice b2 m2 c2] ys) (fun v A => v = .bool (decide (xs = ys)) ∧ A = []) := by
 refine Ct.intro0 G_ok func41 rfl rfl rfl fun E H hp => ?_
 obtain ⟨hp1, hp2⟩ := hp
 obtain ⟨rfl, hc1, hl1⟩ := sl_len hp1
 obtain ⟨rfl, hc2, hl2⟩ := sl_len hp2
 refine ⟨fun q0 => ?_, fun q0 => ?_⟩
 ·simp at q0
  exact ⟨[], ⟨by rw [decide_eq_false (fun e => by subst e; omega)], rfl⟩, .mem (by simp)⟩
 ·simp at q0
  apply loop_mod (α := (Nat)) G_ok [11, 12, 13, 14, 17, 18, 19, 20, 21, 22, 23, 24, 25, 4, 15, 16, 5] (fun z => [(5, .v (.int .i64 z))]) (fun z => []) (fun z => [H]) (fun z => xs.length - z) (fun z => z ≤ xs.length ∧ xs.take z = ys.take z) (0)
  ·exact frI
  ·exact trivial
  ·exact ⟨by omega, by simp⟩
  ·exact .refl _
  rintro k hI
  obtain ⟨hk, he⟩ : k ≤ xs.length ∧ xs.take k = ys.take k := hI
  try dsimp only
  refine ⟨fun q1 => ?_, fun q1 => ?_⟩
  ·simp at q1
   refine draw G_ok mixed none (.q 0 (.q 1 (.q 2 (.q 3 (.q 4 (.q 5 (.q 6 (.q 7 (.q 8 (.nil)))))))))) (by decide +kernel) ?_
   refine idx_rd hp1 ?_ ?_ fun b2 o2 hb2 => ?_
   ·omega
   ·omega
   refine load_allN 0 (k) rfl hp1 ?_ ?_ hb2 rfl (mem_at 0 rfl) fun l3 hl3 => ?_
   ·omega
   ·omega
   obtain ⟨rfl, hw3⟩ := hl3; simp only [flStr, flInt, okI] at hw3
   refine idx_rd hp2 ?_ ?_ fun b4 o4 hb4 => ?_
   ·omega
   ·omega
   refine load_allN 0 (k) rfl hp2 ?_ ?_ hb4 rfl (mem_at 0 rfl) fun l5 hl5 => ?_
   ·omega
   ·omega
   obtain ⟨rfl, hw5⟩ := hl5; simp only [flStr, flInt, okI] at hw5
   refine ⟨fun q6 => ?_, fun q6 => ?_⟩
   ·simp at q6
    exact ⟨[], ⟨by rw [decide_eq_false (fun e => by subst e; omega)], rfl⟩, .mem (by simp)⟩
   ·simp at q6
    apply loop_stepA (k + 1)
    ·exact .refl _
    ·exact frI
    ·exact trivial
    ·exact ⟨by omega, eq_step 0 (by omega) he (by omega) (by simpa using ‹_›)⟩
    omega
  ·simp at q1
   exact ⟨[], ⟨by rw [decide_eq_true]; rw [← List.take_length (l := xs), ← List.take_length (l := ys), ← (by omega : xs.length = ys.length), show xs.length = k by omega]; exact he, rfl⟩, .mem (by simp)⟩
theorem szStringS_ct (b : Option Addr) (m c : Nat) (xs : List ByteArray) (left : Int) (h0 : 0 ≤ left) (h1 : left ≤ 1048576) :
  Ct prog 28 [.slice b m c, .int .i64 left] [] (fun H => (gSl 9 gS).rd H [.slice b m c] xs) (fun v A => (∃ r : Int, v = .int .i64 r ∧ ((r = -1 ∧ left < (szL gS xs : Int)) ∨ (r = left - (szL gS xs : Int) ∧ (szL gS xs : Int) ≤ left))) ∧ A = []) := by
 refine Ct.intro0 G_ok func28 rfl rfl rfl fun E H hp => ?_
 obtain ⟨rfl, hcl, hl⟩ := sl_len hp
 have hq := szL_eq gS xs
 have ht := List.take_length (l := xs)
 refine ⟨fun q0 => ?_, fun q0 => ?_⟩
 ·simp at q0
  simp (disch := omega) only [wrap_of] at q0
  exact ⟨[], ⟨⟨-1, rfl, .inl ⟨rfl, woI⟩⟩, rfl⟩, .mem (by simp)⟩
 ·simp at q0
  simp (disch := omega) only [wrap_of] at q0
  apply loop_mod (α := (Nat) × (Int)) G_ok [12, 13, 14, 15, 18, 19, 20, 21, 22, 23, 24, 1, 25, 26, 4, 16, 17, 5] (fun z => [(5, .v (.int .i64 z.1)), (1, .v (.int .i64 z.2))]) (fun z => []) (fun z => [H]) (fun z => xs.length - z.1) (fun z => z.1 ≤ xs.length ∧ z.2 = left - xs.length - szE gS (xs.take z.1) ∧ 0 ≤ z.2) ((0, left - xs.length))
  ·repeat' (first | exact trivial | refine ⟨⟨_, rfl, by first | rfl | exact inc_eq _ (by omega) | (refine sl_eq ?_; simp; done) | (simp (disch := omega) only [wrap_of]), by first | exact trivial | simp [SV.ok]⟩, ?_⟩)
  ·exact trivial
  ·try dsimp only
   exact ⟨by omega, by simp [szE], by omega⟩
  ·exact .refl _
  rintro ⟨k, lf⟩ hI
  try dsimp only at hI
  obtain ⟨hk, hlf, hnn⟩ := hI
  try dsimp only
  refine ⟨fun q1 => ?_, fun q1 => ?_⟩
  ·simp at q1
   have hs := szE_step gS xs k ByteArray.empty (by omega)
   have hs2 := szE_le gS xs (k + 1)
   refine idx_rd hp ?_ ?_ fun b2 o2 hb2 => ?_
   ·omega
   ·omega
   refine load_allN ByteArray.empty (k) rfl hp ?_ ?_ hb2 rfl (mem_at 0 rfl) fun l3 hl3 => ?_
   ·omega
   ·omega
   have hss : gS.sz (xs[k]?.getD ByteArray.empty) = (xs[k]?.getD ByteArray.empty).size := rfl
   obtain ⟨rfl, hw3⟩ := hl3; simp only [flStr, flInt, okI] at hw3
   refine ⟨fun q4 => ?_, fun q4 => ?_⟩
   ·simp at q4
    simp (disch := omega) only [wrap_of] at q4
    exact ⟨[], ⟨⟨-1, rfl, .inl ⟨rfl, woI⟩⟩, rfl⟩, .mem (by simp)⟩
   ·simp at q4
    simp (disch := omega) only [wrap_of] at q4
    apply loop_stepA (k + 1, lf - ((xs[k]?.getD ByteArray.empty).size : Int))
    ·exact .refl _
    ·repeat' (first | exact trivial | refine ⟨⟨_, rfl, by first | rfl | exact inc_eq _ (by omega) | (refine sl_eq ?_; simp; done) | (simp (disch := omega) only [wrap_of]), by first | exact trivial | simp [SV.ok]⟩, ?_⟩)
    ·exact trivial
    ·try dsimp only
     ((try simp (disch := omega) only [wrap_of] at *); refine ⟨by omega, by omega, by omega⟩)
    try dsimp only
    omega
  ·simp at q1
   obtain rfl : k = xs.length := by omega
   rw [List.take_length] at hlf
   exact ⟨[], ⟨⟨_, rfl, .inr ⟨woI, by omega⟩⟩, rfl⟩, .mem (by simp)⟩
theorem toStringS_ct (b : Option Addr) (m c : Nat) (xs : List ByteArray) (hx : szL gS xs ≤ 1048576) :
  Ct prog 35 [.slice b m c] [] (fun H => (gSl 9 gS).rd H [.slice b m c] xs) (fun v A => ∃ b c, v = .slice b xs.length c ∧ (gSl 9 gS).ow [.slice b xs.length c] xs A) := by
 refine Ct.intro0 G_ok func35 rfl rfl rfl fun E H hp => ?_
 obtain ⟨rfl, hcl, hl⟩ := sl_len hp
 have hls := len_szL gS xs
 refine VCmake.intro ?_ ?_ ?_ ?_ fun x0 => ?_
 ·omega
 ·omega
 ·omega
 ·omega
 apply loop_mod (α := (Nat) × (Hp)) G_ok [8, 9, 10, 11, 14, 15, 16, 17, 18, 19, 20, 12, 13, 4] (fun z => [(4, .v (.int .i64 z.1))]) (fun z => []) (fun z => [z.2, H]) (fun z => xs.length - z.1) (fun z => z.1 ≤ xs.length ∧ (gSl 9 gS).ow [.slice (some ⟨x0, 0, none⟩) xs.length xs.length] (xs.take z.1 ++ List.replicate (xs.length - z.1) ByteArray.empty) z.2) ((0, _))
 ·exact frI
 ·exact trivial
 ·try dsimp only
  exact ⟨by omega, by simpa using gmake (g := gS) (T := 9) (b := x0) (gS_ow (by decide)) (Nat.le_refl xs.length) (by omega)⟩
 ·exact .refl _
 rintro ⟨k, A⟩ hI
 try dsimp only at hI
 obtain ⟨hk, oA⟩ := hI
 try dsimp only
 refine ⟨fun q1 => ?_, fun q1 => ?_⟩
 ·simp at q1
  refine idx_rd hp ?_ ?_ fun b2 o2 hb2 => ?_
  ·omega
  ·omega
  refine load_allN ByteArray.empty (k) rfl hp ?_ ?_ hb2 rfl (mem_at 1 rfl) fun l3 hl3 => ?_
  ·omega
  ·omega
  obtain ⟨rfl, hw3⟩ := hl3; simp only [flStr, flInt, okI] at hw3
  refine idx_rd (Gt.owrd _ oA) ?_ ?_ fun b4 o4 hb4 => ?_
  ·omega
  ·simp; omega
  refine gstoreN (Fld.id _) ByteArray.empty (k) 0 rfl rfl oA ?_ ?_ hb4 rfl fl_pl _ (gS_ow ?_) fun A5 o5 => ?_
  ·omega
  ·simp; omega
  ·trivial
  apply loop_stepA (k + 1, _)
  ·exact .refl _
  ·exact frI
  ·exact trivial
  ·try dsimp only
   exact ⟨by omega, by rw [← take_step xs k ByteArray.empty (by omega)] ; assumption⟩
  try dsimp only
  omega
 ·simp at q1
  obtain rfl : k = xs.length := by omega
  rw [List.take_length, Nat.sub_self, List.replicate_zero, List.append_nil] at oA
  exact ⟨_, ⟨_, _, rfl, oA⟩, rlA⟩
theorem eqStringS_ct (b1 : Option Addr) (m1 c1 : Nat) (b2 : Option Addr) (m2 c2 : Nat) (xs ys : List ByteArray) :
  Ct prog 40 [.slice b1 m1 c1, .slice b2 m2 c2] [] (fun H => (gSl 9 gS).rd H [.slice b1 m1 c1] xs ∧ (gSl 9 gS).rd H [.slice b2 m2 c2] ys) (fun v A => v = .bool (decide (xs = ys)) ∧ A = []) := by
 refine Ct.intro0 G_ok func40 rfl rfl rfl fun E H hp => ?_
 obtain ⟨hp1, hp2⟩ := hp
 obtain ⟨rfl, hc1, hl1⟩ := sl_len hp1
 obtain ⟨rfl, hc2, hl2⟩ := sl_len hp2
 refine ⟨fun q0 => ?_, fun q0 => ?_⟩
 ·simp at q0
  exact ⟨[], ⟨by rw [decide_eq_false (fun e => by subst e; omega)], rfl⟩, .mem (by simp)⟩
 ·simp at q0
  apply loop_mod (α := (Nat)) G_ok [11, 12, 13, 14, 17, 18, 19, 20, 21, 22, 23, 24, 25, 4, 15, 16, 5] (fun z => [(5, .v (.int .i64 z))]) (fun z => []) (fun z => [H]) (fun z => xs.length - z) (fun z => z ≤ xs.length ∧ xs.take z = ys.take z) (0)
  ·exact frI
  ·exact trivial
  ·exact ⟨by omega, by simp⟩
  ·exact .refl _
  rintro k hI
  obtain ⟨hk, he⟩ : k ≤ xs.length ∧ xs.take k = ys.take k := hI
  try dsimp only
  refine ⟨fun q1 => ?_, fun q1 => ?_⟩
  ·simp at q1
   refine draw G_ok mixed none (.q 0 (.q 1 (.q 2 (.q 3 (.q 4 (.q 5 (.q 6 (.q 7 (.q 8 (.nil)))))))))) (by decide +kernel) ?_
   refine idx_rd hp1 ?_ ?_ fun b2 o2 hb2 => ?_
   ·omega
   ·omega
   refine load_allN ByteArray.empty (k) rfl hp1 ?_ ?_ hb2 rfl (mem_at 0 rfl) fun l3 hl3 => ?_
   ·omega
   ·omega
   obtain ⟨rfl, hw3⟩ := hl3; simp only [flStr, flInt, okI] at hw3
   refine idx_rd hp2 ?_ ?_ fun b4 o4 hb4 => ?_
   ·omega
   ·omega
   refine load_allN ByteArray.empty (k) rfl hp2 ?_ ?_ hb4 rfl (mem_at 0 rfl) fun l5 hl5 => ?_
   ·omega
   ·omega
   obtain ⟨rfl, hw5⟩ := hl5; simp only [flStr, flInt, okI] at hw5
   refine ⟨fun q6 => ?_, fun q6 => ?_⟩
   ·simp at q6
    simp only [str_inj, u8_inj, u8_wrap] at q6
    exact ⟨[], ⟨by rw [decide_eq_false (fun e => by subst e; simp at *)], rfl⟩, .mem (by simp)⟩
   ·simp at q6
    simp only [str_inj, u8_inj, u8_wrap] at q6
    apply loop_stepA (k + 1)
    ·exact .refl _
    ·exact frI
    ·exact trivial
    ·exact ⟨by omega, eq_step ByteArray.empty (by omega) he (by omega) (by simpa using ‹_›)⟩
    omega
  ·simp at q1
   exact ⟨[], ⟨by rw [decide_eq_true]; rw [← List.take_length (l := xs), ← List.take_length (l := ys), ← (by omega : xs.length = ys.length), show xs.length = k by omega]; exact he, rfl⟩, .mem (by simp)⟩
theorem eqItem_ct (l1 l2 : List Value) (x y : Item) :
  Ct prog 151 [.agg ⟨l1⟩, .agg ⟨l2⟩] [] (fun H => gItem.rd H l1 x ∧ gItem.rd H l2 y) (fun v A => v = .bool (decide (x = y)) ∧ A = []) := by
 refine Ct.intro0 G_ok func151 rfl rfl rfl fun E H hp => ?_
 obtain ⟨hp1, hp2⟩ := hp
 obtain ⟨b0p, c0p, rfl, h0p, w1p⟩ := gItem_rd.1 hp1
 obtain ⟨b0q, c0q, rfl, h0q, w1q⟩ := gItem_rd.1 hp2
 refine ⟨fun x0 => ?_⟩
 refine ⟨fun x1 => ?_⟩
 refine call_val (eqIntS_ct _ _ _ _ _ _ (x.row) (y.row)) ⟨(Rp.mono _ (mem_at 0 rfl) h0p), (Rp.mono _ (mem_at 0 rfl) h0q)⟩ ?_
 rintro _ rfl
 refine ⟨fun q3 => ?_, fun q3 => ?_⟩
 ·simp at q3
  exact ⟨[], ⟨by rw [decide_eq_false (fun e => by subst e; simp at *)], rfl⟩, .mem (by simp)⟩
 ·simp at q3
  refine ⟨fun q4 => ?_, fun q4 => ?_⟩
  ·simp at q4
   exact ⟨[], ⟨by rw [decide_eq_false (fun e => by subst e; simp at *)], rfl⟩, .mem (by simp)⟩
  ·simp at q4
   exact ⟨[], ⟨by rw [decide_eq_true (Item.eq_iff.2 (by simp_all))], rfl⟩, .mem (by simp)⟩
theorem eqItemS_ct (b1 : Option Addr) (m1 c1 : Nat) (b2 : Option Addr) (m2 c2 : Nat) (xs ys : List Item) :
  Ct prog 113 [.slice b1 m1 c1, .slice b2 m2 c2] [] (fun H => (gSl 134 gItem).rd H [.slice b1 m1 c1] xs ∧ (gSl 134 gItem).rd H [.slice b2 m2 c2] ys) (fun v A => v = .bool (decide (xs = ys)) ∧ A = []) := by
 refine Ct.intro0 G_ok func113 rfl rfl rfl fun E H hp => ?_
 obtain ⟨hp1, hp2⟩ := hp
 obtain ⟨rfl, hc1, hl1⟩ := sl_len hp1
 obtain ⟨rfl, hc2, hl2⟩ := sl_len hp2
 refine ⟨fun q0 => ?_, fun q0 => ?_⟩
 ·simp at q0
  exact ⟨[], ⟨by rw [decide_eq_false (fun e => by subst e; omega)], rfl⟩, .mem (by simp)⟩
 ·simp at q0
  apply loop_mod (α := (Nat)) G_ok [11, 12, 13, 14, 17, 18, 19, 20, 21, 22, 23, 24, 25, 26, 4, 15, 16, 5] (fun z => [(5, .v (.int .i64 z))]) (fun z => []) (fun z => [H]) (fun z => xs.length - z) (fun z => z ≤ xs.length ∧ xs.take z = ys.take z) (0)
  ·exact frI
  ·exact trivial
  ·exact ⟨by omega, by simp⟩
  ·exact .refl _
  rintro k hI
  obtain ⟨hk, he⟩ : k ≤ xs.length ∧ xs.take k = ys.take k := hI
  try dsimp only
  refine ⟨fun q1 => ?_, fun q1 => ?_⟩
  ·simp at q1
   refine draw G_ok mixed none (.q 0 (.q 1 (.q 2 (.q 3 (.q 4 (.q 5 (.q 6 (.q 7 (.f 8 (.q 9 (.nil))))))))))) (by decide +kernel) ?_
   refine idx_rd hp1 ?_ ?_ fun b2 o2 hb2 => ?_
   ·omega
   ·omega
   refine load_allN default (k) rfl hp1 ?_ ?_ hb2 rfl (mem_at 0 rfl) fun l3 hl3 => ?_
   ·omega
   ·omega
   obtain ⟨b0x3, c0x3, rfl, h0x3, w1x3⟩ := gItem_rd.1 hl3
   refine idx_rd hp2 ?_ ?_ fun b4 o4 hb4 => ?_
   ·omega
   ·omega
   refine load_allN default (k) rfl hp2 ?_ ?_ hb4 rfl (mem_at 0 rfl) fun l5 hl5 => ?_
   ·omega
   ·omega
   obtain ⟨b0x5, c0x5, rfl, h0x5, w1x5⟩ := gItem_rd.1 hl5
   refine call_val (eqItem_ct _ _ (xs[k]?.getD default) (ys[k]?.getD default)) ⟨(Rp.mono _ (mem_at 0 rfl) hl3), (Rp.mono _ (mem_at 0 rfl) hl5)⟩ ?_
   rintro _ rfl
   refine VC.intro ?_ ?_
   ·exact fun _ h => h
   refine ⟨fun q7 => ?_, fun q7 => ?_⟩
   ·simp at q7
    exact ⟨[], ⟨by rw [decide_eq_false (fun e => by subst e; simp at *)], rfl⟩, .mem (by simp)⟩
   ·simp at q7
    apply loop_stepA (k + 1)
    ·exact .refl _
    ·exact frI
    ·exact trivial
    ·exact ⟨by omega, eq_step default (by omega) he (by omega) (by simpa using ‹_›)⟩
    omega
  ·simp at q1
   exact ⟨[], ⟨by rw [decide_eq_true]; rw [← List.take_length (l := xs), ← List.take_length (l := ys), ← (by omega : xs.length = ys.length), show xs.length = k by omega]; exact he, rfl⟩, .mem (by simp)⟩
theorem eqBag_ct (l1 l2 : List Value) (x y : Bag) :
  Ct prog 56 [.agg ⟨l1⟩, .agg ⟨l2⟩] [] (fun H => gBag.rd H l1 x ∧ gBag.rd H l2 y) (fun v A => v = .bool (decide (x = y)) ∧ A = []) := by
 refine Ct.intro0 G_ok func56 rfl rfl rfl fun E H hp => ?_
 obtain ⟨hp1, hp2⟩ := hp
 obtain ⟨b0p, c0p, rfl, h0p⟩ := gBag_rd.1 hp1
 obtain ⟨b0q, c0q, rfl, h0q⟩ := gBag_rd.1 hp2
 refine ⟨fun x0 => ?_⟩
 refine ⟨fun x1 => ?_⟩
 refine call_val (eqItemS_ct _ _ _ _ _ _ (x.items) (y.items)) ⟨(Rp.mono _ (mem_at 0 rfl) h0p), (Rp.mono _ (mem_at 0 rfl) h0q)⟩ ?_
 rintro _ rfl
 refine ⟨fun q3 => ?_, fun q3 => ?_⟩
 ·simp at q3
  exact ⟨[], ⟨by rw [decide_eq_false (fun e => by subst e; simp at *)], rfl⟩, .mem (by simp)⟩
 ·simp at q3
  exact ⟨[], ⟨by rw [decide_eq_true (Bag.eq_iff.2 (by simp_all))], rfl⟩, .mem (by simp)⟩
theorem szAtom_ct (l : List Value) (x : Atom) (left : Int) (h0 : 0 ≤ left) (h1 : left ≤ 1048576) :
  Ct prog 86 [.agg ⟨l⟩, .int .i64 left] [] (fun H => gAtom.rd H l x) (fun v A => (∃ r : Int, v = .int .i64 r ∧ ((r = -1 ∧ left < (gAtom.sz x : Int)) ∨ (r = left - (gAtom.sz x : Int) ∧ (gAtom.sz x : Int) ≤ left))) ∧ A = []) := by
 refine Ct.intro0 G_ok func86 rfl rfl rfl fun E H hp => ?_
 obtain ⟨rfl, w0, w1, w2⟩ := gAtom_rd.1 hp
 have hz := gAtom_sz x
 refine ⟨fun x0 => ?_⟩
 refine ⟨fun q1 => ?_, fun q1 => ?_⟩
 ·simp at q1
  simp (disch := omega) only [wrap_of] at q1
  exact ⟨[], ⟨⟨-1, rfl, .inl ⟨rfl, woI⟩⟩, rfl⟩, .mem (by simp)⟩
 ·simp at q1
  simp (disch := omega) only [wrap_of] at q1
  refine ⟨fun q2 => ?_, fun q2 => ?_⟩
  ·simp at q2
   simp (disch := omega) only [wrap_of] at q2
   exact ⟨[], ⟨⟨-1, rfl, .inl ⟨rfl, woI⟩⟩, rfl⟩, .mem (by simp)⟩
  ·simp at q2
   simp (disch := omega) only [wrap_of] at q2
   refine ⟨fun q3 => ?_, fun q3 => ?_⟩
   ·simp at q3
    simp (disch := omega) only [wrap_of] at q3
    exact ⟨[], ⟨⟨-1, rfl, .inl ⟨rfl, woI⟩⟩, rfl⟩, .mem (by simp)⟩
   ·simp at q3
    simp (disch := omega) only [wrap_of] at q3
    exact ⟨[], ⟨⟨_, rfl, .inr ⟨woI, by omega⟩⟩, rfl⟩, .mem (by simp)⟩
theorem toAtom_ct (l : List Value) (x : Atom) (hx : gAtom.sz x ≤ 1048576) :
  Ct prog 97 [.agg ⟨l⟩] [] (fun H => gAtom.rd H l x) (fun v A => ∃ l, v = .agg ⟨l⟩ ∧ gAtom.ow l x A) := by
 refine Ct.intro0 G_ok func97 rfl rfl rfl fun E H hp => ?_
 obtain ⟨rfl, w0, w1, w2⟩ := gAtom_rd.1 hp
 have hz := gAtom_sz x
 refine ⟨fun x0 => ?_⟩
 refine ⟨fun x1 => ?_⟩
 refine ⟨fun x2 => ?_⟩
 exact ⟨_, ⟨_, rfl, gAtom_ow.2 ⟨rfl, .refl _, by assumption, by assumption, by assumption⟩⟩, rlA⟩
theorem eqAtom_ct (l1 l2 : List Value) (x y : Atom) :
  Ct prog 114 [.agg ⟨l1⟩, .agg ⟨l2⟩] [] (fun H => gAtom.rd H l1 x ∧ gAtom.rd H l2 y) (fun v A => v = .bool (decide (x = y)) ∧ A = []) := by
 refine Ct.intro0 G_ok func114 rfl rfl rfl fun E H hp => ?_
 obtain ⟨hp1, hp2⟩ := hp
 obtain ⟨rfl, w0p, w1p, w2p⟩ := gAtom_rd.1 hp1
 obtain ⟨rfl, w0q, w1q, w2q⟩ := gAtom_rd.1 hp2
 refine ⟨fun x0 => ?_⟩
 refine ⟨fun x1 => ?_⟩
 refine ⟨fun q2 => ?_, fun q2 => ?_⟩
 ·simp at q2
  simp only [str_inj, u8_inj, u8_wrap] at q2
  exact ⟨[], ⟨by rw [decide_eq_false (fun e => by subst e; simp at *)], rfl⟩, .mem (by simp)⟩
 ·simp at q2
  simp only [str_inj, u8_inj, u8_wrap] at q2
  refine ⟨fun q3 => ?_, fun q3 => ?_⟩
  ·simp at q3
   simp only [str_inj, u8_inj, u8_wrap] at q3
   exact ⟨[], ⟨by rw [decide_eq_false (fun e => by subst e; simp at *)], rfl⟩, .mem (by simp)⟩
  ·simp at q3
   simp only [str_inj, u8_inj, u8_wrap] at q3
   refine ⟨fun q4 => ?_, fun q4 => ?_⟩
   ·simp at q4
    simp only [str_inj, u8_inj, u8_wrap] at q4
    exact ⟨[], ⟨by rw [decide_eq_false (fun e => by subst e; simp at *)], rfl⟩, .mem (by simp)⟩
   ·simp at q4
    simp only [str_inj, u8_inj, u8_wrap] at q4
    exact ⟨[], ⟨by rw [decide_eq_true (Atom.eq_iff.2 (by simp_all))], rfl⟩, .mem (by simp)⟩
theorem szFilter_ct (l : List Value) (x : Filter) (left : Int) (h0 : 0 ≤ left) (h1 : left ≤ 1048576) :
  Ct prog 87 [.agg ⟨l⟩, .int .i64 left] [] (fun H => gFilter.rd H l x) (fun v A => (∃ r : Int, v = .int .i64 r ∧ ((r = -1 ∧ left < (gFilter.sz x : Int)) ∨ (r = left - (gFilter.sz x : Int) ∧ (gFilter.sz x : Int) ≤ left))) ∧ A = []) := by
 refine Ct.intro0 G_ok func87 rfl rfl rfl fun E H hp => ?_
 obtain ⟨rfl, w0, w1, w2, w3⟩ := gFilter_rd.1 hp
 have hz := gFilter_sz x
 refine ⟨fun x0 => ?_⟩
 refine ⟨fun q1 => ?_, fun q1 => ?_⟩
 ·simp at q1
  simp (disch := omega) only [wrap_of] at q1
  exact ⟨[], ⟨⟨-1, rfl, .inl ⟨rfl, woI⟩⟩, rfl⟩, .mem (by simp)⟩
 ·simp at q1
  simp (disch := omega) only [wrap_of] at q1
  refine ⟨fun q2 => ?_, fun q2 => ?_⟩
  ·simp at q2
   simp (disch := omega) only [wrap_of] at q2
   exact ⟨[], ⟨⟨-1, rfl, .inl ⟨rfl, woI⟩⟩, rfl⟩, .mem (by simp)⟩
  ·simp at q2
   simp (disch := omega) only [wrap_of] at q2
   exact ⟨[], ⟨⟨_, rfl, .inr ⟨woI, by omega⟩⟩, rfl⟩, .mem (by simp)⟩
theorem toFilter_ct (l : List Value) (x : Filter) (hx : gFilter.sz x ≤ 1048576) :
  Ct prog 98 [.agg ⟨l⟩] [] (fun H => gFilter.rd H l x) (fun v A => ∃ l, v = .agg ⟨l⟩ ∧ gFilter.ow l x A) := by
 refine Ct.intro0 G_ok func98 rfl rfl rfl fun E H hp => ?_
 obtain ⟨rfl, w0, w1, w2, w3⟩ := gFilter_rd.1 hp
 have hz := gFilter_sz x
 refine ⟨fun x0 => ?_⟩
 refine ⟨fun x1 => ?_⟩
 refine ⟨fun x2 => ?_⟩
 exact ⟨_, ⟨_, rfl, gFilter_ow.2 ⟨rfl, .refl _, by assumption, by assumption, by assumption, by assumption⟩⟩, rlA⟩
theorem eqFilter_ct (l1 l2 : List Value) (x y : Filter) :
  Ct prog 115 [.agg ⟨l1⟩, .agg ⟨l2⟩] [] (fun H => gFilter.rd H l1 x ∧ gFilter.rd H l2 y) (fun v A => v = .bool (decide (x = y)) ∧ A = []) := by
 refine Ct.intro0 G_ok func115 rfl rfl rfl fun E H hp => ?_
 obtain ⟨hp1, hp2⟩ := hp
 obtain ⟨rfl, w0p, w1p, w2p, w3p⟩ := gFilter_rd.1 hp1
 obtain ⟨rfl, w0q, w1q, w2q, w3q⟩ := gFilter_rd.1 hp2
 refine ⟨fun x0 => ?_⟩
 refine ⟨fun x1 => ?_⟩
 refine ⟨fun q2 => ?_, fun q2 => ?_⟩
 ·simp at q2
  simp only [str_inj, u8_inj, u8_wrap] at q2
  exact ⟨[], ⟨by rw [decide_eq_false (fun e => by subst e; simp at *)], rfl⟩, .mem (by simp)⟩
 ·simp at q2
  simp only [str_inj, u8_inj, u8_wrap] at q2
  refine ⟨fun q3 => ?_, fun q3 => ?_⟩
  ·simp at q3
   exact ⟨[], ⟨by rw [decide_eq_false (fun e => by subst e; simp at *)], rfl⟩, .mem (by simp)⟩
  ·simp at q3
   refine ⟨fun q4 => ?_, fun q4 => ?_⟩
   ·simp at q4
    simp only [str_inj, u8_inj, u8_wrap] at q4
    exact ⟨[], ⟨by rw [decide_eq_false (fun e => by subst e; simp at *)], rfl⟩, .mem (by simp)⟩
   ·simp at q4
    simp only [str_inj, u8_inj, u8_wrap] at q4
    refine ⟨fun q5 => ?_, fun q5 => ?_⟩
    ·simp at q5
     exact ⟨[], ⟨by rw [decide_eq_false (fun e => by subst e; simp at *)], rfl⟩, .mem (by simp)⟩
    ·simp at q5
     exact ⟨[], ⟨by rw [decide_eq_true (Filter.eq_iff.2 (by simp_all))], rfl⟩, .mem (by simp)⟩
theorem szAtomS_ct (b : Option Addr) (m c : Nat) (xs : List Atom) (left : Int) (h0 : 0 ≤ left) (h1 : left ≤ 1048576) :
  Ct prog 43 [.slice b m c, .int .i64 left] [] (fun H => (gSl 154 gAtom).rd H [.slice b m c] xs) (fun v A => (∃ r : Int, v = .int .i64 r ∧ ((r = -1 ∧ left < (szL gAtom xs : Int)) ∨ (r = left - (szL gAtom xs : Int) ∧ (szL gAtom xs : Int) ≤ left))) ∧ A = []) := by
 refine Ct.intro0 G_ok func43 rfl rfl rfl fun E H hp => ?_
 obtain ⟨rfl, hcl, hl⟩ := sl_len hp
 have hq := szL_eq gAtom xs
 have ht := List.take_length (l := xs)
 refine ⟨fun q0 => ?_, fun q0 => ?_⟩
 ·simp at q0
  simp (disch := omega) only [wrap_of] at q0
  exact ⟨[], ⟨⟨-1, rfl, .inl ⟨rfl, woI⟩⟩, rfl⟩, .mem (by simp)⟩
 ·simp at q0
  simp (disch := omega) only [wrap_of] at q0
  apply loop_mod (α := (Nat) × (Int)) G_ok [12, 13, 14, 15, 18, 19, 20, 21, 22, 23, 1, 24, 25, 4, 16, 17, 5] (fun z => [(5, .v (.int .i64 z.1)), (1, .v (.int .i64 z.2))]) (fun z => []) (fun z => [H]) (fun z => xs.length - z.1) (fun z => z.1 ≤ xs.length ∧ z.2 = left - xs.length - szE gAtom (xs.take z.1) ∧ 0 ≤ z.2) ((0, left - xs.length))
  ·repeat' (first | exact trivial | refine ⟨⟨_, rfl, by first | rfl | exact inc_eq _ (by omega) | (refine sl_eq ?_; simp; done) | (simp (disch := omega) only [wrap_of]), by first | exact trivial | simp [SV.ok]⟩, ?_⟩)
  ·exact trivial
  ·try dsimp only
   exact ⟨by omega, by simp [szE], by omega⟩
  ·exact .refl _
  rintro ⟨k, lf⟩ hI
  try dsimp only at hI
  obtain ⟨hk, hlf, hnn⟩ := hI
  try dsimp only
  refine ⟨fun q1 => ?_, fun q1 => ?_⟩
  ·simp at q1
   have hs := szE_step gAtom xs k default (by omega)
   have hs2 := szE_le gAtom xs (k + 1)
   refine idx_rd hp ?_ ?_ fun b2 o2 hb2 => ?_
   ·omega
   ·omega
   refine load_allN default (k) rfl hp ?_ ?_ hb2 rfl (mem_at 0 rfl) fun l3 hl3 => ?_
   ·omega
   ·omega
   obtain ⟨rfl, w0x3, w1x3, w2x3⟩ := gAtom_rd.1 hl3
   refine call_q (szAtom_ct _ (xs[k]?.getD default) _ ?_ ?_) (Rp.mono _ (mem_at 0 rfl) hl3) ?_
   ·trivial
   ·omega
   rintro _ ⟨r4, rfl, hr4⟩
   refine ⟨fun q5 => ?_, fun q5 => ?_⟩
   ·simp at q5
    exact ⟨[], ⟨⟨-1, rfl, .inl ⟨rfl, woI⟩⟩, rfl⟩, .mem (by simp)⟩
   ·simp at q5
    apply loop_stepA (k + 1, _)
    ·exact .refl _
    ·repeat' (first | exact trivial | refine ⟨⟨_, rfl, by first | rfl | exact inc_eq _ (by omega) | (refine sl_eq ?_; simp; done) | (simp (disch := omega) only [wrap_of]), by first | exact trivial | simp [SV.ok]⟩, ?_⟩)
    ·exact trivial
    ·try dsimp only
     ((try simp (disch := omega) only [wrap_of] at *); refine ⟨by omega, by omega, by omega⟩)
    try dsimp only
    omega
  ·simp at q1
   obtain rfl : k = xs.length := by omega
   rw [List.take_length] at hlf
   exact ⟨[], ⟨⟨_, rfl, .inr ⟨woI, by omega⟩⟩, rfl⟩, .mem (by simp)⟩
theorem toAtomS_ct (b : Option Addr) (m c : Nat) (xs : List Atom) (hx : szL gAtom xs ≤ 1048576) :
  Ct prog 50 [.slice b m c] [] (fun H => (gSl 154 gAtom).rd H [.slice b m c] xs) (fun v A => ∃ b c, v = .slice b xs.length c ∧ (gSl 154 gAtom).ow [.slice b xs.length c] xs A) := by
 refine Ct.intro0 G_ok func50 rfl rfl rfl fun E H hp => ?_
 obtain ⟨rfl, hcl, hl⟩ := sl_len hp
 have hls := len_szL gAtom xs
 have hq := szL_eq gAtom xs
 refine VCmake.intro ?_ ?_ ?_ ?_ fun x0 => ?_
 ·omega
 ·omega
 ·omega
 ·omega
 apply loop_mod (α := (Nat) × (Hp)) G_ok [8, 9, 10, 11, 14, 15, 16, 17, 18, 19, 20, 21, 12, 13, 4] (fun z => [(4, .v (.int .i64 z.1))]) (fun z => []) (fun z => [z.2, H]) (fun z => xs.length - z.1) (fun z => z.1 ≤ xs.length ∧ (gSl 154 gAtom).ow [.slice (some ⟨x0, 0, none⟩) xs.length xs.length] (xs.take z.1 ++ List.replicate (xs.length - z.1) zAtom) z.2) ((0, _))
 ·exact frI
 ·exact trivial
 ·try dsimp only
  exact ⟨by omega, by simpa using gmake (g := gAtom) (T := 154) (b := x0) (zAtom_ow) (Nat.le_refl xs.length) (by omega)⟩
 ·exact .refl _
 rintro ⟨k, A⟩ hI
 try dsimp only at hI
 obtain ⟨hk, oA⟩ := hI
 try dsimp only
 refine ⟨fun q1 => ?_, fun q1 => ?_⟩
 ·simp at q1
  have hs := szE_step gAtom xs k default (by omega)
  have hs2 := szE_le gAtom xs (k + 1)
  refine idx_rd hp ?_ ?_ fun b2 o2 hb2 => ?_
  ·omega
  ·omega
  refine load_allN default (k) rfl hp ?_ ?_ hb2 rfl (mem_at 1 rfl) fun l3 hl3 => ?_
  ·omega
  ·omega
  obtain ⟨rfl, w0x3, w1x3, w2x3⟩ := gAtom_rd.1 hl3
  refine call_new (toAtom_ct _ (xs[k]?.getD default) ?_) (Rp.mono _ (mem_at 1 rfl) hl3) ?_
  ·omega
  rintro v4 A4 o4
  obtain ⟨l4, rfl, o4⟩ := o4
  have r4 := Gt.owrd _ o4
  obtain ⟨rfl, w0x4, w1x4, w2x4⟩ := gAtom_rd.1 r4
  refine idx_rd (Gt.owrd _ oA) ?_ ?_ fun b5 o5 hb5 => ?_
  ·omega
  ·simp; omega
  refine gstore1N (k) (A) (A4) [H] rlA rfl oA ?_ ?_ hb5 rfl _ o4 fun A6 o6 => ?_
  ·omega
  ·simp; omega
  apply loop_stepA (k + 1, _)
  ·exact .refl _
  ·exact frI
  ·exact trivial
  ·try dsimp only
   exact ⟨by omega, by rw [← take_stepz xs k default zAtom (by omega)] ; assumption⟩
  try dsimp only
  omega
 ·simp at q1
  obtain rfl : k = xs.length := by omega
  rw [List.take_length, Nat.sub_self, List.replicate_zero, List.append_nil] at oA
  exact ⟨_, ⟨_, _, rfl, oA⟩, rlA⟩
theorem eqAtomS_ct (b1 : Option Addr) (m1 c1 : Nat) (b2 : Option Addr) (m2 c2 : Nat) (xs ys : List Atom) :
  Ct prog 57 [.slice b1 m1 c1, .slice b2 m2 c2] [] (fun H => (gSl 154 gAtom).rd H [.slice b1 m1 c1] xs ∧ (gSl 154 gAtom).rd H [.slice b2 m2 c2] ys) (fun v A => v = .bool (decide (xs = ys)) ∧ A = []) := by
 refine Ct.intro0 G_ok func57 rfl rfl rfl fun E H hp => ?_
 obtain ⟨hp1, hp2⟩ := hp
 obtain ⟨rfl, hc1, hl1⟩ := sl_len hp1
 obtain ⟨rfl, hc2, hl2⟩ := sl_len hp2
 refine ⟨fun q0 => ?_, fun q0 => ?_⟩
 ·simp at q0
  exact ⟨[], ⟨by rw [decide_eq_false (fun e => by subst e; omega)], rfl⟩, .mem (by simp)⟩
 ·simp at q0
  apply loop_mod (α := (Nat)) G_ok [11, 12, 13, 14, 17, 18, 19, 20, 21, 22, 23, 24, 25, 26, 4, 15, 16, 5] (fun z => [(5, .v (.int .i64 z))]) (fun z => []) (fun z => [H]) (fun z => xs.length - z) (fun z => z ≤ xs.length ∧ xs.take z = ys.take z) (0)
  ·exact frI
  ·exact trivial
  ·exact ⟨by omega, by simp⟩
  ·exact .refl _
  rintro k hI
  obtain ⟨hk, he⟩ : k ≤ xs.length ∧ xs.take k = ys.take k := hI
  try dsimp only
  refine ⟨fun q1 => ?_, fun q1 => ?_⟩
  ·simp at q1
   refine draw G_ok mixed none (.q 0 (.q 1 (.q 2 (.q 3 (.q 4 (.q 5 (.q 6 (.q 7 (.f 8 (.q 9 (.nil))))))))))) (by decide +kernel) ?_
   refine idx_rd hp1 ?_ ?_ fun b2 o2 hb2 => ?_
   ·omega
   ·omega
   refine load_allN default (k) rfl hp1 ?_ ?_ hb2 rfl (mem_at 0 rfl) fun l3 hl3 => ?_
   ·omega
   ·omega
   obtain ⟨rfl, w0x3, w1x3, w2x3⟩ := gAtom_rd.1 hl3
   refine idx_rd hp2 ?_ ?_ fun b4 o4 hb4 => ?_
   ·omega
   ·omega
   refine load_allN default (k) rfl hp2 ?_ ?_ hb4 rfl (mem_at 0 rfl) fun l5 hl5 => ?_
   ·omega
   ·omega
   obtain ⟨rfl, w0x5, w1x5, w2x5⟩ := gAtom_rd.1 hl5
   refine call_val (eqAtom_ct _ _ (xs[k]?.getD default) (ys[k]?.getD default)) ⟨(Rp.mono _ (mem_at 0 rfl) hl3), (Rp.mono _ (mem_at 0 rfl) hl5)⟩ ?_
   rintro _ rfl
   refine VC.intro ?_ ?_
   ·exact fun _ h => h
   refine ⟨fun q7 => ?_, fun q7 => ?_⟩
   ·simp at q7
    exact ⟨[], ⟨by rw [decide_eq_false (fun e => by subst e; simp at *)], rfl⟩, .mem (by simp)⟩
   ·simp at q7
    apply loop_stepA (k + 1)
    ·exact .refl _
    ·exact frI
    ·exact trivial
    ·exact ⟨by omega, eq_step default (by omega) he (by omega) (by simpa using ‹_›)⟩
    omega
  ·simp at q1
   exact ⟨[], ⟨by rw [decide_eq_true]; rw [← List.take_length (l := xs), ← List.take_length (l := ys), ← (by omega : xs.length = ys.length), show xs.length = k by omega]; exact he, rfl⟩, .mem (by simp)⟩
theorem szFilterS_ct (b : Option Addr) (m c : Nat) (xs : List Filter) (left : Int) (h0 : 0 ≤ left) (h1 : left ≤ 1048576) :
  Ct prog 44 [.slice b m c, .int .i64 left] [] (fun H => (gSl 157 gFilter).rd H [.slice b m c] xs) (fun v A => (∃ r : Int, v = .int .i64 r ∧ ((r = -1 ∧ left < (szL gFilter xs : Int)) ∨ (r = left - (szL gFilter xs : Int) ∧ (szL gFilter xs : Int) ≤ left))) ∧ A = []) := by
 refine Ct.intro0 G_ok func44 rfl rfl rfl fun E H hp => ?_
 obtain ⟨rfl, hcl, hl⟩ := sl_len hp
 have hq := szL_eq gFilter xs
 have ht := List.take_length (l := xs)
 refine ⟨fun q0 => ?_, fun q0 => ?_⟩
 ·simp at q0
  simp (disch := omega) only [wrap_of] at q0
  exact ⟨[], ⟨⟨-1, rfl, .inl ⟨rfl, woI⟩⟩, rfl⟩, .mem (by simp)⟩
 ·simp at q0
  simp (disch := omega) only [wrap_of] at q0
  apply loop_mod (α := (Nat) × (Int)) G_ok [12, 13, 14, 15, 18, 19, 20, 21, 22, 23, 1, 24, 25, 4, 16, 17, 5] (fun z => [(5, .v (.int .i64 z.1)), (1, .v (.int .i64 z.2))]) (fun z => []) (fun z => [H]) (fun z => xs.length - z.1) (fun z => z.1 ≤ xs.length ∧ z.2 = left - xs.length - szE gFilter (xs.take z.1) ∧ 0 ≤ z.2) ((0, left - xs.length))
  ·repeat' (first | exact trivial | refine ⟨⟨_, rfl, by first | rfl | exact inc_eq _ (by omega) | (refine sl_eq ?_; simp; done) | (simp (disch := omega) only [wrap_of]), by first | exact trivial | simp [SV.ok]⟩, ?_⟩)
  ·exact trivial
  ·try dsimp only
   exact ⟨by omega, by simp [szE], by omega⟩
  ·exact .refl _
  rintro ⟨k, lf⟩ hI
  try dsimp only at hI
  obtain ⟨hk, hlf, hnn⟩ := hI
  try dsimp only
  refine ⟨fun q1 => ?_, fun q1 => ?_⟩
  ·simp at q1
   have hs := szE_step gFilter xs k default (by omega)
   have hs2 := szE_le gFilter xs (k + 1)
   refine idx_rd hp ?_ ?_ fun b2 o2 hb2 => ?_
   ·omega
   ·omega
   refine load_allN default (k) rfl hp ?_ ?_ hb2 rfl (mem_at 0 rfl) fun l3 hl3 => ?_
   ·omega
   ·omega
   obtain ⟨rfl, w0x3, w1x3, w2x3, w3x3⟩ := gFilter_rd.1 hl3
   refine call_q (szFilter_ct _ (xs[k]?.getD default) _ ?_ ?_) (Rp.mono _ (mem_at 0 rfl) hl3) ?_
   ·trivial
   ·omega
   rintro _ ⟨r4, rfl, hr4⟩
   refine ⟨fun q5 => ?_, fun q5 => ?_⟩
   ·simp at q5
    exact ⟨[], ⟨⟨-1, rfl, .inl ⟨rfl, woI⟩⟩, rfl⟩, .mem (by simp)⟩
   ·simp at q5
    apply loop_stepA (k + 1, _)
    ·exact .refl _
    ·repeat' (first | exact trivial | refine ⟨⟨_, rfl, by first | rfl | exact inc_eq _ (by omega) | (refine sl_eq ?_; simp; done) | (simp (disch := omega) only [wrap_of]), by first | exact trivial | simp [SV.ok]⟩, ?_⟩)
    ·exact trivial
    ·try dsimp only
     ((try simp (disch := omega) only [wrap_of] at *); refine ⟨by omega, by omega, by omega⟩)
    try dsimp only
    omega
  ·simp at q1
   obtain rfl : k = xs.length := by omega
   rw [List.take_length] at hlf
   exact ⟨[], ⟨⟨_, rfl, .inr ⟨woI, by omega⟩⟩, rfl⟩, .mem (by simp)⟩
theorem toFilterS_ct (b : Option Addr) (m c : Nat) (xs : List Filter) (hx : szL gFilter xs ≤ 1048576) :
  Ct prog 51 [.slice b m c] [] (fun H => (gSl 157 gFilter).rd H [.slice b m c] xs) (fun v A => ∃ b c, v = .slice b xs.length c ∧ (gSl 157 gFilter).ow [.slice b xs.length c] xs A) := by
 refine Ct.intro0 G_ok func51 rfl rfl rfl fun E H hp => ?_
 obtain ⟨rfl, hcl, hl⟩ := sl_len hp
 have hls := len_szL gFilter xs
 have hq := szL_eq gFilter xs
 refine VCmake.intro ?_ ?_ ?_ ?_ fun x0 => ?_
 ·omega
 ·omega
 ·omega
 ·omega
 apply loop_mod (α := (Nat) × (Hp)) G_ok [8, 9, 10, 11, 14, 15, 16, 17, 18, 19, 20, 21, 12, 13, 4] (fun z => [(4, .v (.int .i64 z.1))]) (fun z => []) (fun z => [z.2, H]) (fun z => xs.length - z.1) (fun z => z.1 ≤ xs.length ∧ (gSl 157 gFilter).ow [.slice (some ⟨x0, 0, none⟩) xs.length xs.length] (xs.take z.1 ++ List.replicate (xs.length - z.1) zFilter) z.2) ((0, _))
 ·exact frI
 ·exact trivial
 ·try dsimp only
  exact ⟨by omega, by simpa using gmake (g := gFilter) (T := 157) (b := x0) (zFilter_ow) (Nat.le_refl xs.length) (by omega)⟩
 ·exact .refl _
 rintro ⟨k, A⟩ hI
 try dsimp only at hI
 obtain ⟨hk, oA⟩ := hI
 try dsimp only
 refine ⟨fun q1 => ?_, fun q1 => ?_⟩
 ·simp at q1
  have hs := szE_step gFilter xs k default (by omega)
  have hs2 := szE_le gFilter xs (k + 1)
  refine idx_rd hp ?_ ?_ fun b2 o2 hb2 => ?_
  ·omega
  ·omega
  refine load_allN default (k) rfl hp ?_ ?_ hb2 rfl (mem_at 1 rfl) fun l3 hl3 => ?_
  ·omega
  ·omega
  obtain ⟨rfl, w0x3, w1x3, w2x3, w3x3⟩ := gFilter_rd.1 hl3
  refine call_new (toFilter_ct _ (xs[k]?.getD default) ?_) (Rp.mono _ (mem_at 1 rfl) hl3) ?_
  ·omega
  rintro v4 A4 o4
  obtain ⟨l4, rfl, o4⟩ := o4
  have r4 := Gt.owrd _ o4
  obtain ⟨rfl, w0x4, w1x4, w2x4, w3x4⟩ := gFilter_rd.1 r4
  refine idx_rd (Gt.owrd _ oA) ?_ ?_ fun b5 o5 hb5 => ?_
  ·omega
  ·simp; omega
  refine gstore1N (k) (A) (A4) [H] rlA rfl oA ?_ ?_ hb5 rfl _ o4 fun A6 o6 => ?_
  ·omega
  ·simp; omega
  apply loop_stepA (k + 1, _)
  ·exact .refl _
  ·exact frI
  ·exact trivial
  ·try dsimp only
   exact ⟨by omega, by rw [← take_stepz xs k default zFilter (by omega)] ; assumption⟩
  try dsimp only
  omega
 ·simp at q1
  obtain rfl : k = xs.length := by omega
  rw [List.take_length, Nat.sub_self, List.replicate_zero, List.append_nil] at oA
  exact ⟨_, ⟨_, _, rfl, oA⟩, rlA⟩
theorem eqFilterS_ct (b1 : Option Addr) (m1 c1 : Nat) (b2 : Option Addr) (m2 c2 : Nat) (xs ys : List Filter) :
  Ct prog 58 [.slice b1 m1 c1, .slice b2 m2 c2] [] (fun H => (gSl 157 gFilter).rd H [.slice b1 m1 c1] xs ∧ (gSl 157 gFilter).rd H [.slice b2 m2 c2] ys) (fun v A => v = .bool (decide (xs = ys)) ∧ A = []) := by
 refine Ct.intro0 G_ok func58 rfl rfl rfl fun E H hp => ?_
 obtain ⟨hp1, hp2⟩ := hp
 obtain ⟨rfl, hc1, hl1⟩ := sl_len hp1
 obtain ⟨rfl, hc2, hl2⟩ := sl_len hp2
 refine ⟨fun q0 => ?_, fun q0 => ?_⟩
 ·simp at q0
  exact ⟨[], ⟨by rw [decide_eq_false (fun e => by subst e; omega)], rfl⟩, .mem (by simp)⟩
 ·simp at q0
  apply loop_mod (α := (Nat)) G_ok [11, 12, 13, 14, 17, 18, 19, 20, 21, 22, 23, 24, 25, 26, 4, 15, 16, 5] (fun z => [(5, .v (.int .i64 z))]) (fun z => []) (fun z => [H]) (fun z => xs.length - z) (fun z => z ≤ xs.length ∧ xs.take z = ys.take z) (0)
  ·exact frI
  ·exact trivial
  ·exact ⟨by omega, by simp⟩
  ·exact .refl _
  rintro k hI
  obtain ⟨hk, he⟩ : k ≤ xs.length ∧ xs.take k = ys.take k := hI
  try dsimp only
  refine ⟨fun q1 => ?_, fun q1 => ?_⟩
  ·simp at q1
   refine draw G_ok mixed none (.q 0 (.q 1 (.q 2 (.q 3 (.q 4 (.q 5 (.q 6 (.q 7 (.f 8 (.q 9 (.nil))))))))))) (by decide +kernel) ?_
   refine idx_rd hp1 ?_ ?_ fun b2 o2 hb2 => ?_
   ·omega
   ·omega
   refine load_allN default (k) rfl hp1 ?_ ?_ hb2 rfl (mem_at 0 rfl) fun l3 hl3 => ?_
   ·omega
   ·omega
   obtain ⟨rfl, w0x3, w1x3, w2x3, w3x3⟩ := gFilter_rd.1 hl3
   refine idx_rd hp2 ?_ ?_ fun b4 o4 hb4 => ?_
   ·omega
   ·omega
   refine load_allN default (k) rfl hp2 ?_ ?_ hb4 rfl (mem_at 0 rfl) fun l5 hl5 => ?_
   ·omega
   ·omega
   obtain ⟨rfl, w0x5, w1x5, w2x5, w3x5⟩ := gFilter_rd.1 hl5
   refine call_val (eqFilter_ct _ _ (xs[k]?.getD default) (ys[k]?.getD default)) ⟨(Rp.mono _ (mem_at 0 rfl) hl3), (Rp.mono _ (mem_at 0 rfl) hl5)⟩ ?_
   rintro _ rfl
   refine VC.intro ?_ ?_
   ·exact fun _ h => h
   refine ⟨fun q7 => ?_, fun q7 => ?_⟩
   ·simp at q7
    exact ⟨[], ⟨by rw [decide_eq_false (fun e => by subst e; simp at *)], rfl⟩, .mem (by simp)⟩
   ·simp at q7
    apply loop_stepA (k + 1)
    ·exact .refl _
    ·exact frI
    ·exact trivial
    ·exact ⟨by omega, eq_step default (by omega) he (by omega) (by simpa using ‹_›)⟩
    omega
  ·simp at q1
   exact ⟨[], ⟨by rw [decide_eq_true]; rw [← List.take_length (l := xs), ← List.take_length (l := ys), ← (by omega : xs.length = ys.length), show xs.length = k by omega]; exact he, rfl⟩, .mem (by simp)⟩
theorem szQuery_ct (l : List Value) (x : Query) (left : Int) (h0 : 0 ≤ left) (h1 : left ≤ 1048576) :
  Ct prog 11 [.agg ⟨l⟩, .int .i64 left] [] (fun H => gQuery.rd H l x) (fun v A => (∃ r : Int, v = .int .i64 r ∧ ((r = -1 ∧ left < (gQuery.sz x : Int)) ∨ (r = left - (gQuery.sz x : Int) ∧ (gQuery.sz x : Int) ≤ left))) ∧ A = []) := by
 refine Ct.intro0 G_ok func11 rfl rfl rfl fun E H hp => ?_
 obtain ⟨b1, c1, b2, c2, b3, c3, rfl, h1, h2, h3⟩ := gQuery_rd.1 hp
 have hz := gQuery_sz x
 refine ⟨fun x0 => ?_⟩
 refine call_q (szStringS_ct _ _ _ (x.out) _ ?_ ?_) (Rp.mono _ (mem_at 0 rfl) h1) ?_
 ·trivial
 ·trivial
 rintro _ ⟨r1, rfl, hr1⟩
 refine ⟨fun q2 => ?_, fun q2 => ?_⟩
 ·simp at q2
  exact ⟨[], ⟨⟨-1, rfl, .inl ⟨rfl, woI⟩⟩, rfl⟩, .mem (by simp)⟩
 ·simp at q2
  refine call_q (szAtomS_ct _ _ _ (x.atoms) _ ?_ ?_) (Rp.mono _ (mem_at 0 rfl) h2) ?_
  ·trivial
  ·omega
  rintro _ ⟨r3, rfl, hr3⟩
  refine ⟨fun q4 => ?_, fun q4 => ?_⟩
  ·simp at q4
   exact ⟨[], ⟨⟨-1, rfl, .inl ⟨rfl, woI⟩⟩, rfl⟩, .mem (by simp)⟩
  ·simp at q4
   refine call_q (szFilterS_ct _ _ _ (x.filters) _ ?_ ?_) (Rp.mono _ (mem_at 0 rfl) h3) ?_
   ·trivial
   ·omega
   rintro _ ⟨r5, rfl, hr5⟩
   refine ⟨fun q6 => ?_, fun q6 => ?_⟩
   ·simp at q6
    exact ⟨[], ⟨⟨-1, rfl, .inl ⟨rfl, woI⟩⟩, rfl⟩, .mem (by simp)⟩
   ·simp at q6
    exact ⟨[], ⟨⟨_, rfl, .inr ⟨woI, by omega⟩⟩, rfl⟩, .mem (by simp)⟩
theorem toQuery_ct (l : List Value) (x : Query) (hx : gQuery.sz x ≤ 1048576) :
  Ct prog 13 [.agg ⟨l⟩] [] (fun H => gQuery.rd H l x) (fun v A => ∃ l, v = .agg ⟨l⟩ ∧ gQuery.ow l x A) := by
 refine Ct.intro0 G_ok func13 rfl rfl rfl fun E H hp => ?_
 obtain ⟨b1, c1, b2, c2, b3, c3, rfl, h1, h2, h3⟩ := gQuery_rd.1 hp
 have hz := gQuery_sz x
 refine ⟨fun x0 => ?_⟩
 refine ⟨fun x1 => ?_⟩
 refine ⟨fun x2 => ?_⟩
 refine call_new (toStringS_ct _ _ _ (x.out) ?_) (Rp.mono _ (mem_at 0 rfl) h1) ?_
 ·omega
 rintro v3 A3 o3
 obtain ⟨b3, c3, rfl, o3⟩ := o3
 refine call_new (toAtomS_ct _ _ _ (x.atoms) ?_) (Rp.mono _ (mem_at 1 rfl) h2) ?_
 ·omega
 rintro v4 A4 o4
 obtain ⟨b4, c4, rfl, o4⟩ := o4
 refine call_new (toFilterS_ct _ _ _ (x.filters) ?_) (Rp.mono _ (mem_at 2 rfl) h3) ?_
 ·omega
 rintro v5 A5 o5
 obtain ⟨b5, c5, rfl, o5⟩ := o5
 exact ⟨_, ⟨_, rfl, gQuery_ow.2 ⟨_, _, _, _, _, _, _, _, _, rfl, .refl _, by assumption, by assumption, by assumption⟩⟩, rlA⟩
theorem eqQuery_ct (l1 l2 : List Value) (x y : Query) :
  Ct prog 16 [.agg ⟨l1⟩, .agg ⟨l2⟩] [] (fun H => gQuery.rd H l1 x ∧ gQuery.rd H l2 y) (fun v A => v = .bool (decide (x = y)) ∧ A = []) := by
 refine Ct.intro0 G_ok func16 rfl rfl rfl fun E H hp => ?_
 obtain ⟨hp1, hp2⟩ := hp
 obtain ⟨b1p, c1p, b2p, c2p, b3p, c3p, rfl, h1p, h2p, h3p⟩ := gQuery_rd.1 hp1
 obtain ⟨b1q, c1q, b2q, c2q, b3q, c3q, rfl, h1q, h2q, h3q⟩ := gQuery_rd.1 hp2
 refine ⟨fun x0 => ?_⟩
 refine ⟨fun x1 => ?_⟩
 refine ⟨fun q2 => ?_, fun q2 => ?_⟩
 ·simp at q2
  exact ⟨[], ⟨by rw [decide_eq_false (fun e => by subst e; simp at *)], rfl⟩, .mem (by simp)⟩
 ·simp at q2
  refine call_val (eqStringS_ct _ _ _ _ _ _ (x.out) (y.out)) ⟨(Rp.mono _ (mem_at 0 rfl) h1p), (Rp.mono _ (mem_at 0 rfl) h1q)⟩ ?_
  rintro _ rfl
  refine ⟨fun q4 => ?_, fun q4 => ?_⟩
  ·simp at q4
   exact ⟨[], ⟨by rw [decide_eq_false (fun e => by subst e; simp at *)], rfl⟩, .mem (by simp)⟩
  ·simp at q4
   refine call_val (eqAtomS_ct _ _ _ _ _ _ (x.atoms) (y.atoms)) ⟨(Rp.mono _ (mem_at 0 rfl) h2p), (Rp.mono _ (mem_at 0 rfl) h2q)⟩ ?_
   rintro _ rfl
   refine ⟨fun q6 => ?_, fun q6 => ?_⟩
   ·simp at q6
    exact ⟨[], ⟨by rw [decide_eq_false (fun e => by subst e; simp at *)], rfl⟩, .mem (by simp)⟩
   ·simp at q6
    refine call_val (eqFilterS_ct _ _ _ _ _ _ (x.filters) (y.filters)) ⟨(Rp.mono _ (mem_at 0 rfl) h3p), (Rp.mono _ (mem_at 0 rfl) h3q)⟩ ?_
    rintro _ rfl
    refine ⟨fun q8 => ?_, fun q8 => ?_⟩
    ·simp at q8
     exact ⟨[], ⟨by rw [decide_eq_false (fun e => by subst e; simp at *)], rfl⟩, .mem (by simp)⟩
    ·simp at q8
     exact ⟨[], ⟨by rw [decide_eq_true (Query.eq_iff.2 (by simp_all))], rfl⟩, .mem (by simp)⟩
theorem eqGot_ct (l1 l2 : List Value) (x y : Got) :
  Ct prog 112 [.agg ⟨l1⟩, .agg ⟨l2⟩] [] (fun H => gGot.rd H l1 x ∧ gGot.rd H l2 y) (fun v A => v = .bool (decide (x = y)) ∧ A = []) := by
 refine Ct.intro0 G_ok func112 rfl rfl rfl fun E H hp => ?_
 obtain ⟨hp1, hp2⟩ := hp
 obtain ⟨l2p, rfl, w0p, w1p, h2p⟩ := gGot_rd.1 hp1
 obtain ⟨b0_2p, c0_2p, rfl, h0_2p⟩ := gBag_rd.1 h2p
 obtain ⟨l2q, rfl, w0q, w1q, h2q⟩ := gGot_rd.1 hp2
 obtain ⟨b0_2q, c0_2q, rfl, h0_2q⟩ := gBag_rd.1 h2q
 refine ⟨fun x0 => ?_⟩
 refine ⟨fun x1 => ?_⟩
 refine ⟨fun q2 => ?_, fun q2 => ?_⟩
 ·simp at q2
  exact ⟨[], ⟨by rw [decide_eq_false (fun e => by subst e; simp at *)], rfl⟩, .mem (by simp)⟩
 ·simp at q2
  refine ⟨fun q3 => ?_, fun q3 => ?_⟩
  ·simp at q3
   exact ⟨[], ⟨by rw [decide_eq_false (fun e => by subst e; simp at *)], rfl⟩, .mem (by simp)⟩
  ·simp at q3
   refine call_val (eqBag_ct _ _ (x.bag) (y.bag)) ⟨(Rp.mono _ (mem_at 0 rfl) h2p), (Rp.mono _ (mem_at 0 rfl) h2q)⟩ ?_
   rintro _ rfl
   refine ⟨fun q5 => ?_, fun q5 => ?_⟩
   ·simp at q5
    exact ⟨[], ⟨by rw [decide_eq_false (fun e => by subst e; simp at *)], rfl⟩, .mem (by simp)⟩
   ·simp at q5
    exact ⟨[], ⟨by rw [decide_eq_true (Got.eq_iff.2 (by simp_all))], rfl⟩, .mem (by simp)⟩
theorem eqGotS_ct (b1 : Option Addr) (m1 c1 : Nat) (b2 : Option Addr) (m2 c2 : Nat) (xs ys : List Got) :
  Ct prog 55 [.slice b1 m1 c1, .slice b2 m2 c2] [] (fun H => (gSl 171 gGot).rd H [.slice b1 m1 c1] xs ∧ (gSl 171 gGot).rd H [.slice b2 m2 c2] ys) (fun v A => v = .bool (decide (xs = ys)) ∧ A = []) := by
 refine Ct.intro0 G_ok func55 rfl rfl rfl fun E H hp => ?_
 obtain ⟨hp1, hp2⟩ := hp
 obtain ⟨rfl, hc1, hl1⟩ := sl_len hp1
 obtain ⟨rfl, hc2, hl2⟩ := sl_len hp2
 refine ⟨fun q0 => ?_, fun q0 => ?_⟩
 ·simp at q0
  exact ⟨[], ⟨by rw [decide_eq_false (fun e => by subst e; omega)], rfl⟩, .mem (by simp)⟩
 ·simp at q0
  apply loop_mod (α := (Nat)) G_ok [11, 12, 13, 14, 17, 18, 19, 20, 21, 22, 23, 24, 25, 26, 4, 15, 16, 5] (fun z => [(5, .v (.int .i64 z))]) (fun z => []) (fun z => [H]) (fun z => xs.length - z) (fun z => z ≤ xs.length ∧ xs.take z = ys.take z) (0)
  ·exact frI
  ·exact trivial
  ·exact ⟨by omega, by simp⟩
  ·exact .refl _
  rintro k hI
  obtain ⟨hk, he⟩ : k ≤ xs.length ∧ xs.take k = ys.take k := hI
  try dsimp only
  refine ⟨fun q1 => ?_, fun q1 => ?_⟩
  ·simp at q1
   refine draw G_ok mixed none (.q 0 (.q 1 (.q 2 (.q 3 (.q 4 (.q 5 (.q 6 (.q 7 (.f 8 (.q 9 (.nil))))))))))) (by decide +kernel) ?_
   refine idx_rd hp1 ?_ ?_ fun b2 o2 hb2 => ?_
   ·omega
   ·omega
   refine load_allN default (k) rfl hp1 ?_ ?_ hb2 rfl (mem_at 0 rfl) fun l3 hl3 => ?_
   ·omega
   ·omega
   obtain ⟨l2x3, rfl, w0x3, w1x3, h2x3⟩ := gGot_rd.1 hl3 ; obtain ⟨b0_2x3, c0_2x3, rfl, h0_2x3⟩ := gBag_rd.1 h2x3
   refine idx_rd hp2 ?_ ?_ fun b4 o4 hb4 => ?_
   ·omega
   ·omega
   refine load_allN default (k) rfl hp2 ?_ ?_ hb4 rfl (mem_at 0 rfl) fun l5 hl5 => ?_
   ·omega
   ·omega
   obtain ⟨l2x5, rfl, w0x5, w1x5, h2x5⟩ := gGot_rd.1 hl5 ; obtain ⟨b0_2x5, c0_2x5, rfl, h0_2x5⟩ := gBag_rd.1 h2x5
   refine call_val (eqGot_ct _ _ (xs[k]?.getD default) (ys[k]?.getD default)) ⟨(Rp.mono _ (mem_at 0 rfl) hl3), (Rp.mono _ (mem_at 0 rfl) hl5)⟩ ?_
   rintro _ rfl
   refine VC.intro ?_ ?_
   ·exact fun _ h => h
   refine ⟨fun q7 => ?_, fun q7 => ?_⟩
   ·simp at q7
    exact ⟨[], ⟨by rw [decide_eq_false (fun e => by subst e; simp at *)], rfl⟩, .mem (by simp)⟩
   ·simp at q7
    apply loop_stepA (k + 1)
    ·exact .refl _
    ·exact frI
    ·exact trivial
    ·exact ⟨by omega, eq_step default (by omega) he (by omega) (by simpa using ‹_›)⟩
    omega
  ·simp at q1
   exact ⟨[], ⟨by rw [decide_eq_true]; rw [← List.take_length (l := xs), ← List.take_length (l := ys), ← (by omega : xs.length = ys.length), show xs.length = k by omega]; exact he, rfl⟩, .mem (by simp)⟩
theorem eqAsk_ct (l1 l2 : List Value) (x y : Ask) :
  Ct prog 15 [.agg ⟨l1⟩, .agg ⟨l2⟩] [] (fun H => gAsk.rd H l1 x ∧ gAsk.rd H l2 y) (fun v A => v = .bool (decide (x = y)) ∧ A = []) := by
 refine Ct.intro0 G_ok func15 rfl rfl rfl fun E H hp => ?_
 obtain ⟨hp1, hp2⟩ := hp
 obtain ⟨l1p, b2p, c2p, b4p, c4p, l6p, rfl, h1p, h2p, w3p, h4p, h6p⟩ := gAsk_rd.1 hp1
 obtain ⟨b1_1p, c1_1p, b2_1p, c2_1p, b3_1p, c3_1p, rfl, h1_1p, h2_1p, h3_1p⟩ := gQuery_rd.1 h1p
 obtain ⟨b0_6p, c0_6p, rfl, h0_6p⟩ := gBag_rd.1 h6p
 obtain ⟨l1q, b2q, c2q, b4q, c4q, l6q, rfl, h1q, h2q, w3q, h4q, h6q⟩ := gAsk_rd.1 hp2
 obtain ⟨b1_1q, c1_1q, b2_1q, c2_1q, b3_1q, c3_1q, rfl, h1_1q, h2_1q, h3_1q⟩ := gQuery_rd.1 h1q
 obtain ⟨b0_6q, c0_6q, rfl, h0_6q⟩ := gBag_rd.1 h6q
 refine ⟨fun x0 => ?_⟩
 refine ⟨fun x1 => ?_⟩
 refine ⟨fun q2 => ?_, fun q2 => ?_⟩
 ·simp at q2
  exact ⟨[], ⟨by rw [decide_eq_false (fun e => by subst e; simp at *)], rfl⟩, .mem (by simp)⟩
 ·simp at q2
  refine call_val (eqQuery_ct _ _ (x.query) (y.query)) ⟨(Rp.mono _ (mem_at 0 rfl) h1p), (Rp.mono _ (mem_at 0 rfl) h1q)⟩ ?_
  rintro _ rfl
  refine ⟨fun q4 => ?_, fun q4 => ?_⟩
  ·simp at q4
   exact ⟨[], ⟨by rw [decide_eq_false (fun e => by subst e; simp at *)], rfl⟩, .mem (by simp)⟩
  ·simp at q4
   refine call_val (eqIntS_ct _ _ _ _ _ _ (x.shares) (y.shares)) ⟨(Rp.mono _ (mem_at 0 rfl) h2p), (Rp.mono _ (mem_at 0 rfl) h2q)⟩ ?_
   rintro _ rfl
   refine ⟨fun q6 => ?_, fun q6 => ?_⟩
   ·simp at q6
    exact ⟨[], ⟨by rw [decide_eq_false (fun e => by subst e; simp at *)], rfl⟩, .mem (by simp)⟩
   ·simp at q6
    refine ⟨fun q7 => ?_, fun q7 => ?_⟩
    ·simp at q7
     exact ⟨[], ⟨by rw [decide_eq_false (fun e => by subst e; simp at *)], rfl⟩, .mem (by simp)⟩
    ·simp at q7
     refine call_val (eqGotS_ct _ _ _ _ _ _ (x.results) (y.results)) ⟨(Rp.mono _ (mem_at 0 rfl) h4p), (Rp.mono _ (mem_at 0 rfl) h4q)⟩ ?_
     rintro _ rfl
     refine ⟨fun q9 => ?_, fun q9 => ?_⟩
     ·simp at q9
      exact ⟨[], ⟨by rw [decide_eq_false (fun e => by subst e; simp at *)], rfl⟩, .mem (by simp)⟩
     ·simp at q9
      refine ⟨fun q10 => ?_, fun q10 => ?_⟩
      ·simp at q10
       exact ⟨[], ⟨by rw [decide_eq_false (fun e => by subst e; simp at *)], rfl⟩, .mem (by simp)⟩
      ·simp at q10
       refine call_val (eqBag_ct _ _ (x.answer) (y.answer)) ⟨(Rp.mono _ (mem_at 0 rfl) h6p), (Rp.mono _ (mem_at 0 rfl) h6q)⟩ ?_
       rintro _ rfl
       refine ⟨fun q12 => ?_, fun q12 => ?_⟩
       ·simp at q12
        exact ⟨[], ⟨by rw [decide_eq_false (fun e => by subst e; simp at *)], rfl⟩, .mem (by simp)⟩
       ·simp at q12
        exact ⟨[], ⟨by rw [decide_eq_true (Ask.eq_iff.2 (by simp_all))], rfl⟩, .mem (by simp)⟩
end
section
def inR (a b n : Int) : Bool := decide (a ≤ n) && decide (n ≤ b)
theorem inR_iff {a b n : Int} : inR a b n = true ↔ a ≤ n ∧ n ≤ b := by unfold inR; simp
theorem l01In_ct (n a b : Int) : Ct prog 46 [.int .i64 n, .int .i64 a, .int .i64 b] [] (fun _ => True) (fun v A => v = .bool (inR a b n) ∧ A = []) := by
 refine Ct.intro0 G_ok func46 rfl rfl rfl fun E H hp => ?_
 refine ⟨fun q0 => ?_, fun q0 => ?_⟩
 ·simp at q0
  exact ⟨[], ⟨by unfold inR; first | rw [decide_eq_true (by omega : a ≤ n), Bool.true_and] | rw [decide_eq_false (by omega : ¬ a ≤ n), Bool.false_and], rfl⟩, .mem (by simp)⟩
 ·simp at q0
  exact ⟨[], ⟨by unfold inR; first | rw [decide_eq_true (by omega : a ≤ n), Bool.true_and] | rw [decide_eq_false (by omega : ¬ a ≤ n), Bool.false_and], rfl⟩, .mem (by simp)⟩
end
section
def by' (s : ByteArray) : List UInt8 := s.data.toList
def tx (l : List UInt8) : ByteArray := ⟨l.toArray⟩
theorem tx_by (s : ByteArray) : tx (by' s) = s := by unfold tx by'; rfl
theorem by_tx (l : List UInt8) : by' (tx l) = l := by unfold tx by'; simp
theorem by_inj {a b : ByteArray} : by' a = by' b ↔ a = b := ⟨fun h => by rw [← tx_by a, h, tx_by], fun h => by rw [h]⟩
theorem by_size (s : ByteArray) : (by' s).length = s.size := by unfold by'; simp
theorem by_app (a b : ByteArray) : by' (a ++ b) = by' a ++ by' b := by unfold by'; simp
theorem tx_app (a b : List UInt8) : tx (a ++ b) = tx a ++ tx b := by rw [← by_inj, by_app, by_tx, by_tx, by_tx]
def xu (x y : Int) : Int := IntKind.u32.wrap (BitVec.ofInt IntKind.u32.bits x ^^^ BitVec.ofInt IntKind.u32.bits y).toNat
theorem u32_wrap (x : Int) : IntKind.u32.wrap x = x % 4294967296 := by
 unfold IntKind.wrap
 simp [IntKind.bits, IntKind.signed]
def bitStep (s : Int) : Int := if s % 2 = 1 then xu (s / 2) 3558460437 else s / 2
def bits : Nat → Int → Int
 | 0, s => s
 | n + 1, s => bitStep (bits n s)
attribute [irreducible] xu bits
attribute [local irreducible] IntKind.wrap
end
section
attribute [local irreducible] IntKind.wrap
def varL : Nat → Nat → List UInt8
 | 0, n => [UInt8.ofNat n]
 | f + 1, n => if 127 < n then UInt8.ofNat (128 + n % 128) :: varL f (n / 128) else [UInt8.ofNat n]
def varT (n : Int) : List UInt8 := varL 9 n.toNat
def varText (n : Int) : ByteArray := tx (varT n)
theorem varL_len : ∀ f n, (varL f n).length ≤ f + 1
 | 0, n => by simp [varL]
 | f + 1, n => by
  unfold varL; split
  ·have := varL_len f (n / 128); simp only [List.length_cons]; omega
  simp
theorem varL_low (f n : Nat) (h : n ≤ 127) : varL f n = [UInt8.ofNat n] := by
 cases f with
 | zero => rfl
 | succ f => unfold varL; rw [if_neg (by omega)]
theorem varText_size (n : Int) : (varText n).size ≤ 10 := by
 rw [← by_size]; unfold varText; rw [by_tx]; exact varL_len 9 _
theorem var_b1 (q : Nat) : UInt8.ofNat (IntKind.i64.wrap (128 + (q : Int).tmod 128) % 256).toNat = UInt8.ofNat (128 + q % 128) := by
 rw [Int.tmod_eq_emod_of_nonneg (by omega), wrap_of (by omega) (by omega)]; congr 1; omega
theorem var_b1' (q : Nat) : UInt8.ofNat (IntKind.i64.wrap ((q : Int).tmod 128 + 128) % 256).toNat = UInt8.ofNat (128 + q % 128) := by
 rw [Int.tmod_eq_emod_of_nonneg (by omega), wrap_of (by omega) (by omega)]; congr 1; omega
theorem var_b2 (q : Nat) (h : q ≤ 127) : UInt8.ofNat ((q : Int) % 256).toNat = UInt8.ofNat q := by congr 1; omega
theorem var_q (q : Nat) (h : q ≤ 4611686018427387904) : Value.int .i64 (IntKind.i64.wrap ((q : Int).tdiv 128)) = Value.int .i64 ((q / 128 : Nat) : Int) := by
 rw [Int.tdiv_eq_ediv_of_nonneg (by omega), wrap_of (by omega) (by omega)]; congr 1
theorem pow128 (f q : Nat) (h : q < 128 ^ (f + 1)) (h1 : 127 < q) : ∃ f', f = f' + 1 := by
 cases f with
 | zero => simp at h; omega
 | succ f' => exact ⟨f', rfl⟩
theorem varText_ct (n : Int) (h0 : 0 ≤ n) (h1 : n ≤ 4611686018427387904) : Ct prog 108 [.int .i64 n] [] (fun _ => True) (fun v A => v = .string (varText n) ∧ A = []) := by
 refine Ct.intro0 G_ok func108 rfl rfl rfl fun E H hp => ?_
 apply loop_mod (α := (Nat) × (Nat) × (List UInt8) × (Hp) × (Option Addr) × (Nat)) G_ok [4, 5, 6, 7, 8, 9, 10, 11, 12, 3, 13, 14, 0] (fun z => [(3, .v (.slice z.2.2.2.2.1 z.2.2.1.length z.2.2.2.2.2)), (0, .v (.int .i64 z.2.1))]) (fun z => []) (fun z => [z.2.2.2.1, H]) (fun z => z.2.1) (fun z => (gSl 5 gY).ow [.slice z.2.2.2.2.1 z.2.2.1.length z.2.2.2.2.2] z.2.2.1 z.2.2.2.1 ∧ z.2.2.1 ++ varL z.1 z.2.1 = varT n ∧ z.2.1 < 128 ^ (z.1 + 1) ∧ z.2.2.1.length + z.1 ≤ 9 ∧ z.2.1 ≤ 4611686018427387904) ((9, n.toNat, [], [], none, 0))
 ·repeat' (first | exact trivial | refine ⟨⟨_, rfl, by first | rfl | exact inc_eq _ (by omega) | (refine sl_eq ?_; simp; done) | (refine svi_eq ?_; (try dsimp only); omega) | exact var_q q (by omega), by first | exact trivial | simp [SV.ok]⟩, ?_⟩)
 ·exact trivial
 ·try dsimp only
  exact ⟨sl_nil _ _ _, rfl, by omega, by simp, by omega⟩
 ·exact .refl _
 rintro ⟨f, q, o, A, b, c⟩ hI
 try dsimp only at hI
 obtain ⟨oo, hv, hq, hl, hm⟩ := hI
 try dsimp only
 refine ⟨fun q0 => ?_, fun q0 => ?_⟩
 ·simp at q0
  obtain ⟨f, rfl⟩ := pow128 f q hq (by omega)
  refine VC.intro ?_ ?_
  ·trivial
  refine ⟨fun x1 => ?_⟩
  refine gappend1 (g := gY) (T := (5 : TypeId)) G_ok A [] [H] ?_ oo (gY_owM _) (List.mem_of_getElem? (i := 0) rfl) rfl rfl rfl rfl rfl rfl rfl rfl ?_ fun b2 c2 A2 o2 => ?_
  ·exact .tl
  ·omega
  refine VC.intro ?_ ?_
  ·trivial
  apply loop_stepA (f, q / 128, _, _, _, _)
  ·exact .refl _
  ·repeat' (first | exact trivial | refine ⟨⟨_, rfl, by first | rfl | exact inc_eq _ (by omega) | (refine sl_eq ?_; simp; done) | (refine svi_eq ?_; (try dsimp only); omega) | exact var_q q (by omega), by first | exact trivial | simp [SV.ok]⟩, ?_⟩)
  ·exact trivial
  ·try dsimp only
   exact ⟨‹_›, by rw [var_b1, ← hv]; (conv => rhs; unfold varL; rw [if_pos (by omega)]); rw [List.append_assoc, List.singleton_append], by rw [Nat.pow_succ] at hq; omega, by simp; omega, by omega⟩
  try dsimp only
  omega
 ·simp at q0
  refine ⟨fun x3 => ?_⟩
  refine gappend1 (g := gY) (T := (5 : TypeId)) G_ok A [] [H] ?_ oo (gY_owM _) (List.mem_of_getElem? (i := 0) rfl) rfl rfl rfl rfl rfl rfl rfl rfl ?_ fun b4 c4 A4 o4 => ?_
  ·exact .tl
  ·omega
  refine conv_bs G_ok (o ++ [UInt8.ofNat ((↑q : Int) % (256 : Int)).toNat]) rfl (Rp.mono _ (mem_at 0 rfl) (Gt.owrd _ o4)) rfl rfl rfl ?_
  exact ⟨[], ⟨by rw [var_b2 q (by omega), ← varL_low f q (by omega), hv]; rfl, rfl⟩, .mem (by simp)⟩
theorem l01Var_ct (n : Int) (h0 : 0 ≤ n) (h1 : n ≤ 4611686018427387904) : Ct prog 96 [.int .i64 n] [] (fun _ => True) (fun v A => v = .string (varText n) ∧ A = []) := by
 refine Ct.intro0 G_ok func96 rfl rfl rfl fun E H hp => ?_
 refine ⟨fun x0 => ?_⟩
 apply loop_mod (α := (Nat) × (Nat) × (List UInt8) × (Hp) × (Option Addr) × (Nat)) G_ok [5, 6, 7, 8, 9, 10, 11, 12, 13, 3, 14, 15, 0] (fun z => [(3, .v (.slice z.2.2.2.2.1 z.2.2.1.length z.2.2.2.2.2)), (0, .v (.int .i64 z.2.1))]) (fun z => []) (fun z => [z.2.2.2.1, H]) (fun z => z.2.1) (fun z => (gSl 5 gY).ow [.slice z.2.2.2.2.1 z.2.2.1.length z.2.2.2.2.2] z.2.2.1 z.2.2.2.1 ∧ z.2.2.1 ++ varL z.1 z.2.1 = varT n ∧ z.2.1 < 128 ^ (z.1 + 1) ∧ z.2.2.1.length + z.1 ≤ 9 ∧ z.2.1 ≤ 4611686018427387904) ((9, n.toNat, [], [], some ⟨x0, 0, none⟩, 0))
 ·repeat' (first | exact trivial | refine ⟨⟨_, rfl, by first | rfl | exact inc_eq _ (by omega) | (refine sl_eq ?_; simp; done) | (refine svi_eq ?_; (try dsimp only); omega) | exact var_q q (by omega), by first | exact trivial | simp [SV.ok]⟩, ?_⟩)
 ·exact trivial
 ·try dsimp only
  exact ⟨sl_nil _ _ _, rfl, by omega, by simp, by omega⟩
 ·exact .tl
 rintro ⟨f, q, o, A, b, c⟩ hI
 try dsimp only at hI
 obtain ⟨oo, hv, hq, hl, hm⟩ := hI
 try dsimp only
 refine ⟨fun q1 => ?_, fun q1 => ?_⟩
 ·simp at q1
  obtain ⟨f, rfl⟩ := pow128 f q hq (by omega)
  refine VC.intro ?_ ?_
  ·trivial
  refine ⟨fun x2 => ?_⟩
  refine gappend1 (g := gY) (T := (5 : TypeId)) G_ok A [] [H] ?_ oo (gY_owM _) (List.mem_of_getElem? (i := 0) rfl) rfl rfl rfl rfl rfl rfl rfl rfl ?_ fun b3 c3 A3 o3 => ?_
  ·exact .tl
  ·omega
  refine VC.intro ?_ ?_
  ·trivial
  apply loop_stepA (f, q / 128, _, _, _, _)
  ·exact .refl _
  ·repeat' (first | exact trivial | refine ⟨⟨_, rfl, by first | rfl | exact inc_eq _ (by omega) | (refine sl_eq ?_; simp; done) | (refine svi_eq ?_; (try dsimp only); omega) | exact var_q q (by omega), by first | exact trivial | simp [SV.ok]⟩, ?_⟩)
  ·exact trivial
  ·try dsimp only
   exact ⟨‹_›, by rw [var_b1', ← hv]; (conv => rhs; unfold varL; rw [if_pos (by omega)]); rw [List.append_assoc, List.singleton_append], by rw [Nat.pow_succ] at hq; omega, by simp; omega, by omega⟩
  try dsimp only
  omega
 ·simp at q1
  refine ⟨fun x4 => ?_⟩
  refine gappend1 (g := gY) (T := (5 : TypeId)) G_ok A [] [H] ?_ oo (gY_owM _) (List.mem_of_getElem? (i := 0) rfl) rfl rfl rfl rfl rfl rfl rfl rfl ?_ fun b5 c5 A5 o5 => ?_
  ·exact .tl
  ·omega
  refine conv_bs G_ok (o ++ [UInt8.ofNat ((↑q : Int) % (256 : Int)).toNat]) rfl (Rp.mono _ (mem_at 0 rfl) (Gt.owrd _ o5)) rfl rfl rfl ?_
  exact ⟨[], ⟨by rw [var_b2 q (by omega), ← varL_low f q (by omega), hv]; rfl, rfl⟩, .mem (by simp)⟩
end
section
attribute [local irreducible] IntKind.wrap
def cmpI (a b : Int) : Int := if a < b then -1 else if b < a then 1 else 0
def cmpL : List Int → List Int → Int
 | [], [] => 0
 | [], _ :: _ => -1
 | _ :: _, [] => 1
 | a :: r, b :: s => if a < b then -1 else if b < a then 1 else cmpL r s
theorem isNaN_ct (a : Int) : Ct prog 222 [.int .i64 a] [] (fun _ => True) (fun v A => v = .bool false ∧ A = []) := by
 refine Ct.intro0 G_ok func222 rfl rfl rfl fun E H hp => ?_
 exact ⟨[], ⟨by simp, rfl⟩, .mem (by simp)⟩
theorem cmpCompare_ct (a b : Int) : Ct prog 206 [.int .i64 a, .int .i64 b] [] (fun _ => True) (fun v A => v = .int .i64 (cmpI a b) ∧ A = []) := by
 refine Ct.intro0 G_ok func206 rfl rfl rfl fun E H hp => ?_
 refine call_val (isNaN_ct _) trivial ?_
 rintro _ rfl
 refine call_val (isNaN_ct _) trivial ?_
 rintro _ rfl
 refine ⟨fun q2 => ?_, fun q2 => ?_⟩
 ·simp at q2
 ·simp at q2
  refine ⟨fun q3 => ?_, fun q3 => ?_⟩
  ·simp at q3
  ·simp at q3
   refine ⟨fun q4 => ?_, fun q4 => ?_⟩
   ·simp at q4
    exact ⟨[], ⟨by unfold cmpI; rw [if_pos (by omega)], rfl⟩, .mem (by simp)⟩
   ·simp at q4
    refine ⟨fun q5 => ?_, fun q5 => ?_⟩
    ·simp at q5
     exact ⟨[], ⟨by unfold cmpI; rw [if_neg (by omega), if_pos (by omega)], rfl⟩, .mem (by simp)⟩
    ·simp at q5
     exact ⟨[], ⟨by unfold cmpI; rw [if_neg (by omega), if_neg (by omega)], rfl⟩, .mem (by simp)⟩
theorem cmpL_drop {xs ys : List Int} (k : Nat) (h1 : k < xs.length) (h2 : k < ys.length) :
  cmpL (xs.drop k) (ys.drop k) = if cmpI (xs[k]?.getD 0) (ys[k]?.getD 0) = 0 then cmpL (xs.drop (k + 1)) (ys.drop (k + 1)) else cmpI (xs[k]?.getD 0) (ys[k]?.getD 0) := by
 rw [List.drop_eq_getElem_cons h1, List.drop_eq_getElem_cons h2, List.getElem?_eq_getElem h1, List.getElem?_eq_getElem h2]
 simp only [Option.getD_some, cmpL, cmpI]
 split
 ·simp
 split
 ·simp
 simp
theorem sCompare_ct (b1 : Option Addr) (m1 c1 : Nat) (b2 : Option Addr) (m2 c2 : Nat) (xs ys : List Int) :
  Ct prog 190 [.slice b1 m1 c1, .slice b2 m2 c2] [] (fun H => (gSl 3 gI).rd H [.slice b1 m1 c1] xs ∧ (gSl 3 gI).rd H [.slice b2 m2 c2] ys) (fun v A => v = .int .i64 (cmpL xs ys) ∧ A = []) := by
 refine Ct.intro0 G_ok func190 rfl rfl rfl fun E H hp => ?_
 obtain ⟨hp1, hp2⟩ := hp
 obtain ⟨rfl, hc1, hl1⟩ := sl_len hp1
 obtain ⟨rfl, hc2, hl2⟩ := sl_len hp2
 apply loop_mod (α := (Nat)) G_ok [12, 13, 14, 15, 5, 6, 16, 17, 18, 19, 4, 20, 21, 22, 23, 7, 24, 25, 26, 8, 27, 28, 29, 30, 11] (fun z => [(11, .v (.int .i64 z))]) (fun z => []) (fun z => [H]) (fun z => xs.length - z) (fun z => z ≤ xs.length ∧ z ≤ ys.length ∧ cmpL xs ys = cmpL (xs.drop z) (ys.drop z)) (0)
 ·exact frI
 ·exact trivial
 ·exact ⟨by omega, by omega, by simp⟩
 ·exact .refl _
 rintro k hI
 try dsimp only at hI
 obtain ⟨hk, hk2, he⟩ := hI
 try dsimp only
 refine ⟨fun q0 => ?_, fun q0 => ?_⟩
 ·simp at q0
  refine idx_rd hp1 ?_ ?_ fun b1 o1 hb1 => ?_
  ·omega
  ·omega
  refine load_allN 0 (k) rfl hp1 ?_ ?_ hb1 rfl (mem_at 0 rfl) fun l2 hl2 => ?_
  ·omega
  ·omega
  obtain ⟨rfl, hw2⟩ := hl2; simp only [flStr, flInt, okI] at hw2
  refine ⟨fun q3 => ?_, fun q3 => ?_⟩
  ·simp at q3
   exact ⟨[], ⟨by rw [he, List.drop_eq_getElem_cons (by omega : k < xs.length), List.drop_eq_nil_of_le (by omega : ys.length ≤ k)]; rfl, rfl⟩, .mem (by simp)⟩
  ·simp at q3
   refine idx_rd hp2 ?_ ?_ fun b4 o4 hb4 => ?_
   ·omega
   ·omega
   refine load_allN 0 (k) rfl hp2 ?_ ?_ hb4 rfl (mem_at 0 rfl) fun l5 hl5 => ?_
   ·omega
   ·omega
   obtain ⟨rfl, hw5⟩ := hl5; simp only [flStr, flInt, okI] at hw5
   refine call_val (cmpCompare_ct _ _) trivial ?_
   rintro _ rfl
   refine ⟨fun q7 => ?_, fun q7 => ?_⟩
   ·simp at q7
    exact ⟨[], ⟨by rw [he, cmpL_drop k (by omega) (by omega), if_neg (by assumption)], rfl⟩, .mem (by simp)⟩
   ·simp at q7
    apply loop_stepA (k + 1)
    ·exact .refl _
    ·exact frI
    ·exact trivial
    ·exact ⟨by omega, by omega, by rw [he, cmpL_drop k (by omega) (by omega), if_pos (by assumption)]⟩
    omega
 ·simp at q0
  refine ⟨fun q8 => ?_, fun q8 => ?_⟩
  ·simp at q8
   exact ⟨[], ⟨by rw [he, List.drop_eq_getElem_cons (by omega : k < ys.length), List.drop_eq_nil_of_le (by omega : xs.length ≤ k)]; rfl, rfl⟩, .mem (by simp)⟩
  ·simp at q8
   exact ⟨[], ⟨by rw [he, List.drop_eq_nil_of_le (by omega : ys.length ≤ k), List.drop_eq_nil_of_le (by omega : xs.length ≤ k)]; rfl, rfl⟩, .mem (by simp)⟩
def labelOk (b : UInt8) : Bool := decide (97 ≤ (b.toNat : Int)) && decide ((b.toNat : Int) ≤ 100)
theorem isLabel_ct (b : UInt8) : Ct prog 232 [.int .u8 b.toNat] [] (fun _ => True) (fun v A => v = .bool (labelOk b) ∧ A = []) := by
 refine Ct.intro0 G_ok func232 rfl rfl rfl fun E H hp => ?_
 refine ⟨fun q0 => ?_, fun q0 => ?_⟩
 ·simp at q0
  exact ⟨[], ⟨by unfold labelOk; first | rw [decide_eq_true (by omega : (97 : Int) ≤ b.toNat), Bool.true_and] | rw [decide_eq_false (by omega : ¬ (97 : Int) ≤ b.toNat), Bool.false_and], rfl⟩, .mem (by simp)⟩
 ·simp at q0
  exact ⟨[], ⟨by unfold labelOk; first | rw [decide_eq_true (by omega : (97 : Int) ≤ b.toNat), Bool.true_and] | rw [decide_eq_false (by omega : ¬ (97 : Int) ≤ b.toNat), Bool.false_and], rfl⟩, .mem (by simp)⟩
end
section
attribute [local irreducible] IntKind.wrap
def allK (p : Nat → Bool) : Nat → Bool
 | 0 => true
 | k + 1 => allK p k && p k
theorem allK_no {p : Nat → Bool} {k : Nat} (h : p k = false) : ∀ n, k < n → allK p n = false
 | 0, h1 => by omega
 | n + 1, h1 => by
  unfold allK
  rcases Nat.lt_or_ge k n with h2 | h2
  ·rw [allK_no h n h2]; rfl
  rw [show n = k by omega, h]; simp
theorem allK_step {p : Nat → Bool} {k : Nat} (h : allK p k = true) (h1 : p k = true) : allK p (k + 1) = true := by unfold allK; rw [h, h1]; rfl
theorem allK_at {p : Nat → Bool} : ∀ {n : Nat}, allK p n = true → ∀ k, k < n → p k = true
 | 0, _, k, hk => by omega
 | n + 1, h, k, hk => by
  unfold allK at h
  rw [Bool.and_eq_true] at h
  rcases Nat.lt_or_ge k n with h1 | h1
  ·exact allK_at h.1 k h1
  rw [show k = n by omega]; exact h.2
theorem cmpI_zero {a b : Int} : cmpI a b = 0 ↔ a = b := by
 unfold cmpI; split
 ·omega
 split <;> omega
theorem cmpI_neg {a b : Int} : cmpI a b < 0 ↔ a < b := by
 unfold cmpI; split
 ·omega
 split <;> omega
theorem cmpL_end {xs ys : List Int} {k : Nat} (h : xs.length ≤ k ∨ ys.length ≤ k) (h1 : k ≤ xs.length) (h2 : k ≤ ys.length) : decide (cmpL (xs.drop k) (ys.drop k) < 0) = decide (xs.length < ys.length) := by
 rcases Nat.lt_or_ge k xs.length with h3 | h3
 ·rw [List.drop_eq_nil_of_le (by omega : ys.length ≤ k), List.drop_eq_getElem_cons h3, decide_eq_decide]
  simp only [cmpL]; omega
 rw [List.drop_eq_nil_of_le h3]
 rcases Nat.lt_or_ge k ys.length with h4 | h4
 ·rw [List.drop_eq_getElem_cons h4, decide_eq_decide]; simp only [cmpL]; omega
 rw [List.drop_eq_nil_of_le h4, decide_eq_decide]; simp only [cmpL]; omega
theorem cmpL_go {xs ys : List Int} {k : Nat} (h1 : k < xs.length) (h2 : k < ys.length) (h : ¬ (xs[k]?.getD 0) = (ys[k]?.getD 0)) : decide (cmpL (xs.drop k) (ys.drop k) < 0) = decide ((xs[k]?.getD 0) < (ys[k]?.getD 0)) := by
 rw [cmpL_drop k h1 h2, if_neg (by rw [cmpI_zero]; exact h), decide_eq_decide]; exact cmpI_neg
theorem cmpL_eq {xs ys : List Int} {k : Nat} (h1 : k < xs.length) (h2 : k < ys.length) (h : (xs[k]?.getD 0) = (ys[k]?.getD 0)) : cmpL (xs.drop k) (ys.drop k) = cmpL (xs.drop (k + 1)) (ys.drop (k + 1)) := by
 rw [cmpL_drop k h1 h2, if_pos (by rw [cmpI_zero]; exact h)]
def rowLess (a b : List Int) : Bool := decide (cmpL a b < 0)
theorem specRowLess_ct (b1 : Option Addr) (m1 c1 : Nat) (b2 : Option Addr) (m2 c2 : Nat) (xs ys : List Int) :
  Ct prog 93 [.slice b1 m1 c1, .slice b2 m2 c2] [] (fun H => (gSl 3 gI).rd H [.slice b1 m1 c1] xs ∧ (gSl 3 gI).rd H [.slice b2 m2 c2] ys) (fun v A => v = .bool (rowLess xs ys) ∧ A = []) := by
 refine Ct.intro0 G_ok func93 rfl rfl rfl fun E H hp => ?_
 obtain ⟨hp1, hp2⟩ := hp
 obtain ⟨rfl, hc1, hl1⟩ := sl_len hp1
 obtain ⟨rfl, hc2, hl2⟩ := sl_len hp2
 apply loop_mod (α := (Nat)) G_ok [6, 7, 8, 9, 10, 11, 12, 13, 14, 15, 18, 19, 20, 21, 22, 23, 24, 25, 26, 27, 28, 29, 30, 31, 32, 33, 34, 35, 4, 16, 17, 5] (fun z => [(5, .v (.int .i64 z))]) (fun z => []) (fun z => [H]) (fun z => xs.length - z) (fun z => z ≤ xs.length ∧ z ≤ ys.length ∧ cmpL xs ys = cmpL (xs.drop z) (ys.drop z)) (0)
 ·exact frI
 ·exact trivial
 ·exact ⟨by omega, by omega, by simp⟩
 ·exact .refl _
 rintro k hI
 try dsimp only at hI
 obtain ⟨hk, hk2, he⟩ := hI
 try dsimp only
 refine ⟨fun q0 => ?_, fun q0 => ?_⟩
 ·simp at q0
  refine ⟨fun q1 => ?_, fun q1 => ?_⟩
  ·simp at q1
   refine draw G_ok mixed none (.q 0 (.q 1 (.q 2 (.q 3 (.q 4 (.q 5 (.q 6 (.q 7 (.q 8 (.nil)))))))))) (by decide +kernel) ?_
   refine idx_rd hp1 ?_ ?_ fun b2 o2 hb2 => ?_
   ·omega
   ·omega
   refine load_allN 0 (k) rfl hp1 ?_ ?_ hb2 rfl (mem_at 0 rfl) fun l3 hl3 => ?_
   ·omega
   ·omega
   obtain ⟨rfl, hw3⟩ := hl3; simp only [flStr, flInt, okI] at hw3
   refine idx_rd hp2 ?_ ?_ fun b4 o4 hb4 => ?_
   ·omega
   ·omega
   refine load_allN 0 (k) rfl hp2 ?_ ?_ hb4 rfl (mem_at 0 rfl) fun l5 hl5 => ?_
   ·omega
   ·omega
   obtain ⟨rfl, hw5⟩ := hl5; simp only [flStr, flInt, okI] at hw5
   refine ⟨fun q6 => ?_, fun q6 => ?_⟩
   ·simp at q6
    refine draw G_ok mixed none (.q 0 (.q 1 (.q 2 (.q 3 (.q 4 (.q 5 (.q 6 (.q 7 (.q 8 (.q 9 (.nil))))))))))) (by decide +kernel) ?_
    refine idx_rd hp1 ?_ ?_ fun b7 o7 hb7 => ?_
    ·omega
    ·omega
    refine load_allN 0 (k) rfl hp1 ?_ ?_ hb7 rfl (mem_at 0 rfl) fun l8 hl8 => ?_
    ·omega
    ·omega
    obtain ⟨rfl, hw8⟩ := hl8; simp only [flStr, flInt, okI] at hw8
    refine idx_rd hp2 ?_ ?_ fun b9 o9 hb9 => ?_
    ·omega
    ·omega
    refine load_allN 0 (k) rfl hp2 ?_ ?_ hb9 rfl (mem_at 0 rfl) fun l10 hl10 => ?_
    ·omega
    ·omega
    obtain ⟨rfl, hw10⟩ := hl10; simp only [flStr, flInt, okI] at hw10
    exact ⟨[], ⟨by unfold rowLess; rw [he, cmpL_go (by omega) (by omega) ‹¬ _ = _›], rfl⟩, .mem (by simp)⟩
   ·simp at q6
    apply loop_stepA (k + 1)
    ·exact .refl _
    ·exact frI
    ·exact trivial
    ·exact ⟨by omega, by omega, by rw [he, cmpL_eq (by omega) (by omega) ‹_ = _›]⟩
    omega
  ·simp at q1
   exact ⟨[], ⟨by unfold rowLess; rw [he, cmpL_end (by omega) (by omega) (by omega)]; congr 1; rw [decide_eq_decide]; omega, rfl⟩, .mem (by simp)⟩
 ·simp at q0
  exact ⟨[], ⟨by unfold rowLess; rw [he, cmpL_end (by omega) (by omega) (by omega)]; congr 1; rw [decide_eq_decide]; omega, rfl⟩, .mem (by simp)⟩
end
section
attribute [local irreducible] IntKind.wrap
def hasS (l : List ByteArray) (s : ByteArray) : Bool := !allK (fun i => !decide ((l[i]?.getD ByteArray.empty).toList = s.toList)) l.length
theorem hasS_at {l : List ByteArray} {s : ByteArray} {k : Nat} (hk : k < l.length) (h : (l[k]?.getD ByteArray.empty).toList = s.toList) : hasS l s = true := by
 unfold hasS
 rw [allK_no (p := fun i => !decide ((l[i]?.getD ByteArray.empty).toList = s.toList)) (k := k) (by simp [h]) _ hk]; rfl
theorem hasS_none {l : List ByteArray} {s : ByteArray} (h : allK (fun i => !decide ((l[i]?.getD ByteArray.empty).toList = s.toList)) l.length = true) : hasS l s = false := by
 unfold hasS; rw [h]; rfl
theorem not_in {a b : ByteArray} (h : ¬ a = b) : (!decide (a.toList = b.toList)) = true := by
 rw [Bool.not_eq_true', decide_eq_false_iff_not, str_inj]; exact h
theorem sIndexS_ct (b : Option Addr) (m c : Nat) (xs : List ByteArray) (v : ByteArray) :
  Ct prog 181 [.slice b m c, .string v] [] (fun H => (gSl 9 gS).rd H [.slice b m c] xs)
   (fun w A => (∃ k : Int, w = .int .i64 k ∧ (decide (k ≥ 0)) = hasS xs v) ∧ A = []) := by
 refine Ct.intro0 G_ok func181 rfl rfl rfl fun E H hp => ?_
 obtain ⟨rfl, hcl, hl⟩ := sl_len hp
 apply loop_mod (α := (Nat) × (Int)) G_ok [9, 10, 5, 11, 12, 13, 14, 15, 16, 17, 4, 18, 8] (fun z => [(8, .v (.int .i64 z.1)), (4, .v (.int .i64 z.2))]) (fun z => []) (fun z => [H]) (fun z => xs.length - z.1) (fun z => z.1 ≤ xs.length ∧ allK (fun i => !decide ((xs[i]?.getD ByteArray.empty).toList = v.toList)) z.1 = true) ((0, 0))
 ·exact frI
 ·exact trivial
 ·try dsimp only
  exact ⟨Nat.zero_le _, rfl⟩
 ·exact .refl _
 rintro ⟨k, j⟩ hI
 try dsimp only at hI
 obtain ⟨hk, ha⟩ := hI
 try dsimp only
 refine ⟨fun q0 => ?_, fun q0 => ?_⟩
 ·simp at q0
  refine idx_rd hp ?_ ?_ fun b1 o1 hb1 => ?_
  ·omega
  ·omega
  refine load_allN ByteArray.empty (k) rfl hp ?_ ?_ hb1 rfl (mem_at 0 rfl) fun l2 hl2 => ?_
  ·omega
  ·omega
  obtain ⟨rfl, hw2⟩ := hl2; simp only [flStr, flInt, okI] at hw2
  refine ⟨fun q3 => ?_, fun q3 => ?_⟩
  ·simp at q3
   simp only [str_inj, u8_inj, u8_wrap] at q3
   exact ⟨[], ⟨⟨_, rfl, by rw [hasS_at (k := k) (by omega) (congrArg ByteArray.toList (by first | assumption | exact Eq.symm (by assumption)))]; simp⟩, rfl⟩, .refl _⟩
  ·simp at q3
   simp only [str_inj, u8_inj, u8_wrap] at q3
   apply loop_stepA (k + 1, _)
   ·exact .refl _
   ·exact frI
   ·exact trivial
   ·try dsimp only
    exact ⟨by omega, allK_step ha (not_in (by first | assumption | exact fun e => absurd e.symm (by assumption)))⟩
   try dsimp only
   omega
 ·simp at q0
  (have hke : k = xs.length := (by omega); subst hke; exact ⟨[], ⟨⟨_, rfl, by rw [hasS_none ha]; decide⟩, rfl⟩, .refl _⟩)
theorem sContainsS_ct (b : Option Addr) (m c : Nat) (xs : List ByteArray) (v : ByteArray) :
  Ct prog 149 [.slice b m c, .string v] [] (fun H => (gSl 9 gS).rd H [.slice b m c] xs)
   (fun w A => w = .bool (hasS xs v) ∧ A = []) := by
 refine Ct.intro0 G_ok func149 rfl rfl rfl fun E H hp => ?_
 refine call_val (sIndexS_ct _ _ _ (xs) _) (Rp.mono _ (mem_at 0 rfl) hp) ?_
 rintro _ ⟨k, rfl, hk⟩
 exact ⟨[], ⟨by rw [← hk], rfl⟩, .refl _⟩
theorem l08In_ct (b : Option Addr) (m c : Nat) (xs : List ByteArray) (v : ByteArray) :
  Ct prog 90 [.slice b m c, .string v] [] (fun H => (gSl 9 gS).rd H [.slice b m c] xs)
   (fun w A => w = .bool (hasS xs v) ∧ A = []) := by
 refine Ct.intro0 G_ok func90 rfl rfl rfl fun E H hp => ?_
 obtain ⟨rfl, hcl, hl⟩ := sl_len hp
 apply loop_mod (α := (Nat)) G_ok [6, 7, 8, 9, 12, 13, 14, 15, 16, 17, 4, 10, 11, 5] (fun z => [(5, .v (.int .i64 z))]) (fun z => []) (fun z => [H]) (fun z => xs.length - z) (fun z => z ≤ xs.length ∧ allK (fun i => !decide ((xs[i]?.getD ByteArray.empty).toList = v.toList)) z = true) ((0))
 ·exact frI
 ·exact trivial
 ·exact ⟨Nat.zero_le _, rfl⟩
 ·exact .refl _
 rintro k hI
 try dsimp only at hI
 obtain ⟨hk, ha⟩ := hI
 try dsimp only
 refine ⟨fun q0 => ?_, fun q0 => ?_⟩
 ·simp at q0
  refine idx_rd hp ?_ ?_ fun b1 o1 hb1 => ?_
  ·omega
  ·omega
  refine load_allN ByteArray.empty (k) rfl hp ?_ ?_ hb1 rfl (mem_at 0 rfl) fun l2 hl2 => ?_
  ·omega
  ·omega
  obtain ⟨rfl, hw2⟩ := hl2; simp only [flStr, flInt, okI] at hw2
  refine ⟨fun q3 => ?_, fun q3 => ?_⟩
  ·simp at q3
   simp only [str_inj, u8_inj, u8_wrap] at q3
   exact ⟨[], ⟨by rw [hasS_at (k := k) (by omega) (congrArg ByteArray.toList (by first | assumption | exact Eq.symm (by assumption)))], rfl⟩, .refl _⟩
  ·simp at q3
   simp only [str_inj, u8_inj, u8_wrap] at q3
   apply loop_stepA (k + 1)
   ·exact .refl _
   ·exact frI
   ·exact trivial
   ·exact ⟨by omega, allK_step ha (not_in (by first | assumption | exact fun e => absurd e.symm (by assumption)))⟩
   omega
 ·simp at q0
  (have hke : k = xs.length := (by omega); subst hke; exact ⟨[], ⟨by rw [hasS_none ha], rfl⟩, .refl _⟩)
def eachT : List UInt8 := [101, 97, 99, 104]
theorem each_beq (s : ByteArray) : (s.toList == (⟨#[101, 97, 99, 104]⟩ : ByteArray).toList) = decide (s.toList = eachT) := by
 rw [show (⟨#[101, 97, 99, 104]⟩ : ByteArray).toList = eachT by simp [eachT], Bool.eq_iff_iff, beq_iff_eq, decide_eq_true_iff]
def lowB (b : UInt8) : Bool := inR 97 122 (b.toNat : Int)
def lowK (s : ByteArray) (k : Nat) : Bool := allK (fun i => lowB ((s[i]?).getD 0)) k
def nameOk (s : ByteArray) : Bool := lowK s s.size && (inR 1 4 s.size && !decide (s.toList = eachT))
theorem name_no1 {s : ByteArray} {k : Nat} (hk : k < s.size) (h : ¬ (97 ≤ (((s[k]?).getD 0).toNat : Int) ∧ (((s[k]?).getD 0).toNat : Int) ≤ 122)) : nameOk s = false := by
 unfold nameOk lowK
 rw [allK_no (p := fun i => lowB ((s[i]?).getD 0)) (k := k) (by unfold lowB; rw [Bool.eq_false_iff, Ne, inR_iff]; exact h) _ hk]; rfl
theorem name_no2 {s : ByteArray} (h : ¬ (1 ≤ (s.size : Int) ∧ (s.size : Int) ≤ 4)) : nameOk s = false := by
 unfold nameOk
 rw [show inR 1 4 (s.size : Int) = false by rw [Bool.eq_false_iff, Ne, inR_iff]; exact h]; simp
theorem name_no3 {s : ByteArray} (h : s.toList = eachT) : nameOk s = false := by
 unfold nameOk; rw [h]; simp
theorem name_yes {s : ByteArray} (h1 : lowK s s.size = true) (h2 : 1 ≤ (s.size : Int) ∧ (s.size : Int) ≤ 4) (h3 : ¬ s.toList = eachT) : nameOk s = true := by
 unfold nameOk; rw [h1, inR_iff.2 h2, decide_eq_false h3]; rfl
theorem lowK_step {s : ByteArray} {k : Nat} (h : lowK s k = true) (h1 : 97 ≤ (((s[k]?).getD 0).toNat : Int) ∧ (((s[k]?).getD 0).toNat : Int) ≤ 122) : lowK s (k + 1) = true :=
 allK_step h (inR_iff.2 h1)
theorem implQueryName_ct (s : ByteArray) (hs : s.size ≤ 9223372036854775807) : Ct prog 178 [.string s] [] (fun _ => True) (fun v A => v = .bool (nameOk s) ∧ A = []) := by
 refine Ct.intro0 G_ok func178 rfl rfl rfl fun E H hp => ?_
 refine ⟨fun q0 => ?_, fun q0 => ?_⟩
 ·simp at q0
  exact ⟨[], ⟨by rw [name_no2 (by omega)], rfl⟩, .refl _⟩
 ·simp at q0
  refine ⟨fun q1 => ?_, fun q1 => ?_⟩
  ·simp at q1
   exact ⟨[], ⟨by rw [name_no2 (by omega)], rfl⟩, .refl _⟩
  ·simp at q1
   refine ⟨fun q2 => ?_, fun q2 => ?_⟩
   ·simp at q2
    exact ⟨[], ⟨by rw [name_no3 (by assumption)], rfl⟩, .refl _⟩
   ·simp at q2
    apply loop_mod (α := (Nat)) G_ok [16, 17, 18, 19, 22, 23, 24, 25, 26, 27, 28, 29, 30, 31, 2, 20, 21, 3] (fun z => [(3, .v (.int .i64 z))]) (fun z => []) (fun z => [H]) (fun z => s.size - z) (fun z => z ≤ s.size ∧ lowK s z = true) ((0))
    ·exact frI
    ·exact trivial
    ·exact ⟨Nat.zero_le _, rfl⟩
    ·exact .refl _
    rintro k hI
    obtain ⟨hk, ha⟩ : k ≤ s.size ∧ lowK s k = true := hI
    try dsimp only
    refine ⟨fun q3 => ?_, fun q3 => ?_⟩
    ·simp at q3
     refine VC.intro ?_ ?_
     ·omega
     refine ⟨fun q4 => ?_, fun q4 => ?_⟩
     ·simp at q4
      exact ⟨[], ⟨by rw [name_no1 (k := k) (by omega) (by omega)], rfl⟩, .refl _⟩
     ·simp at q4
      refine VC.intro ?_ ?_
      ·omega
      refine ⟨fun q5 => ?_, fun q5 => ?_⟩
      ·simp at q5
       exact ⟨[], ⟨by rw [name_no1 (k := k) (by omega) (by omega)], rfl⟩, .refl _⟩
      ·simp at q5
       apply loop_stepA (k + 1)
       ·exact .refl _
       ·exact frI
       ·exact trivial
       ·exact ⟨by omega, lowK_step ha (by omega)⟩
       omega
    ·simp at q3
     (have hke : k = s.size := (by omega); subst hke; exact ⟨[], ⟨by rw [name_yes ha (by omega) (by assumption)], rfl⟩, .refl _⟩)
theorem specQueryName_ct (s : ByteArray) (hs : s.size ≤ 9223372036854775807) : Ct prog 141 [.string s] [] (fun _ => True) (fun v A => v = .bool (nameOk s) ∧ A = []) := by
 refine Ct.intro0 G_ok func141 rfl rfl rfl fun E H hp => ?_
 apply loop_mod (α := (Nat)) G_ok [4, 5, 6, 7, 10, 11, 12, 13, 14, 15, 16, 17, 18, 19, 2, 8, 9, 3] (fun z => [(3, .v (.int .i64 z))]) (fun z => []) (fun z => [H]) (fun z => s.size - z) (fun z => z ≤ s.size ∧ lowK s z = true) ((0))
 ·exact frI
 ·exact trivial
 ·exact ⟨Nat.zero_le _, rfl⟩
 ·exact .refl _
 rintro k hI
 obtain ⟨hk, ha⟩ : k ≤ s.size ∧ lowK s k = true := hI
 try dsimp only
 refine ⟨fun q0 => ?_, fun q0 => ?_⟩
 ·simp at q0
  refine VC.intro ?_ ?_
  ·omega
  refine ⟨fun q1 => ?_, fun q1 => ?_⟩
  ·simp at q1
   exact ⟨[], ⟨by rw [name_no1 (k := k) (by omega) (by omega)], rfl⟩, .refl _⟩
  ·simp at q1
   refine VC.intro ?_ ?_
   ·omega
   refine ⟨fun q2 => ?_, fun q2 => ?_⟩
   ·simp at q2
    exact ⟨[], ⟨by rw [name_no1 (k := k) (by omega) (by omega)], rfl⟩, .refl _⟩
   ·simp at q2
    apply loop_stepA (k + 1)
    ·exact .refl _
    ·exact frI
    ·exact trivial
    ·exact ⟨by omega, lowK_step ha (by omega)⟩
    omega
 ·simp at q0
  refine call_val (l01In_ct _ _ _) trivial ?_
  rintro _ rfl
  refine ⟨fun q4 => ?_, fun q4 => ?_⟩
  ·have iq4 := inR_iff.1 q4
   (have hke : k = s.size := (by omega); subst hke; exact ⟨[], ⟨by unfold nameOk; rw [ha, inR_iff.2 (by assumption), Bool.true_and, Bool.true_and]; exact congrArg (fun b => Value.bool !b) (each_beq s), rfl⟩, .refl _⟩)
  ·have iq4 := mt inR_iff.2 (Bool.eq_false_iff.1 q4)
   exact ⟨[], ⟨by rw [name_no2 (by assumption)], rfl⟩, .refl _⟩
end
section
attribute [local irreducible] IntKind.wrap
def byteAt (t : ByteArray) (i : Nat) : UInt8 := (t[i]?).getD 0
theorem byte_p (t : ByteArray) (k : Nat) : (t[k]?).getD 0 = byteAt t k := rfl
end
section
theorem labelOk_iff {b : UInt8} : labelOk b = true ↔ 97 ≤ b.toNat ∧ b.toNat ≤ 100 := by unfold labelOk; simp; omega
theorem byteAt_end {t : ByteArray} {i : Nat} (h : t.size ≤ i) : byteAt t i = 0 := by
 unfold byteAt; rw [getElem?_neg _ _ (by omega)]; rfl
theorem byteAt_lt {t : ByteArray} {i : Nat} (h : (byteAt t i).toNat ≠ 0) : i < t.size := by
 rcases Nat.lt_or_ge i t.size with h1 | h1
 ·exact h1
 rw [byteAt_end h1] at h; exact absurd rfl h
abbrev PR := Int × Nat × List Piece
def postOp (b : UInt8) : Int := if b.toNat = 42 then 4 else if b.toNat = 43 then 5 else if b.toNat = 63 then 6 else 0
def pPost (t : ByteArray) : Nat → Int → Nat → List Piece → PR
 | 0, k, p, ps => (k, p, ps)
 | f + 1, k, p, ps => if postOp (byteAt t p) = 0 then (k, p, ps) else pPost t f ps.length (p + 1) (ps ++ [⟨postOp (byteAt t p), 0, [k]⟩])
def pItem (t : ByteArray) (E : Nat → List Piece → Option PR) (p : Nat) (ps : List Piece) : Option PR :=
 if (byteAt t p).toNat = 40 then
  match E (p + 1) ps with
  | none => none
  | some r => if (byteAt t r.2.1).toNat = 41 then some (pPost t (t.size + 1) r.1 (r.2.1 + 1) r.2.2) else none
 else some (pPost t (t.size + 1) ps.length (p + 1) (ps ++ [⟨1, byteAt t p, []⟩]))
def begins (b : UInt8) : Bool := labelOk b || decide (b.toNat = 40)
abbrev LR := List Int × Nat × List Piece
def pAlts (t : ByteArray) (I : Nat → List Piece → Option PR) : Nat → List Int → Nat → List Piece → Option LR
 | 0, ks, p, ps => some (ks, p, ps)
 | f + 1, ks, p, ps =>
  if begins (byteAt t p) = true then
   match I p ps with
   | none => none
   | some r => pAlts t I f (ks ++ [r.1]) r.2.1 r.2.2
  else some (ks, p, ps)
def pGroup (op : Int) (r : LR) : PR := if r.1.length = 1 then (r.1[0]?.getD 0, r.2.1, r.2.2) else (r.2.2.length, r.2.1, r.2.2 ++ [⟨op, 0, r.1⟩])
def altEnd : Option LR → Option PR
 | none => none
 | some r => if r.1.length = 0 then none else some (pGroup 2 r)
def pAlt (t : ByteArray) (I : Nat → List Piece → Option PR) (p : Nat) (ps : List Piece) : Option PR := altEnd (pAlts t I (t.size + 1) [] p ps)
def pExprs (t : ByteArray) (A : Nat → List Piece → Option PR) : Nat → List Int → Nat → List Piece → Option PR
 | 0, _, _, _ => none
 | f + 1, ks, p, ps =>
  match A p ps with
  | none => none
  | some r => if (byteAt t r.2.1).toNat = 124 then pExprs t A f (ks ++ [r.1]) (r.2.1 + 1) r.2.2 else some (pGroup 3 (ks ++ [r.1], r.2.1, r.2.2))
def pExpr (t : ByteArray) : Nat → Nat → List Piece → Option PR
 | 0, _, _ => none
 | n + 1, p, ps => pExprs t (pAlt t (pItem t (pExpr t n))) (t.size + 1) [] p ps
def Reads (t : ByteArray) (p : Nat) (ps : List Piece) (r : PR) : Prop := p < r.2.1 ∧ r.2.1 ≤ t.size ∧ r.2.2.length + 1 + 2 * p ≤ ps.length + 2 * r.2.1 ∧ ps.length ≤ r.2.2.length ∧ 0 ≤ r.1 ∧ r.1 < r.2.2.length
def ReadsL (t : ByteArray) (p : Nat) (ps : List Piece) (k0 : Nat) (r : LR) : Prop := k0 ≤ r.1.length ∧ p ≤ r.2.1 ∧ r.2.1 ≤ t.size ∧ r.2.2.length + r.1.length + 2 * p ≤ ps.length + k0 + 2 * r.2.1 ∧ ps.length ≤ r.2.2.length ∧ ∀ k ∈ r.1, 0 ≤ k ∧ k < r.2.2.length
theorem postOp_lt {t : ByteArray} {p : Nat} (h : ¬ postOp (byteAt t p) = 0) : p < t.size := by
 rcases Nat.lt_or_ge p t.size with h1 | h1
 ·exact h1
 rw [byteAt_end h1] at h; exact absurd rfl h
theorem pPost_le (t : ByteArray) : ∀ (f : Nat) (k : Int) (p : Nat) (ps : List Piece), p ≤ t.size → 0 ≤ k → k < ps.length →
  p ≤ (pPost t f k p ps).2.1 ∧ (pPost t f k p ps).2.1 ≤ t.size ∧ (pPost t f k p ps).2.2.length + p = ps.length + (pPost t f k p ps).2.1 ∧ 0 ≤ (pPost t f k p ps).1 ∧ (pPost t f k p ps).1 < (pPost t f k p ps).2.2.length
 | 0, k, p, ps, h, h1, h2 => ⟨Nat.le_refl _, h, rfl, h1, h2⟩
 | f + 1, k, p, ps, h, h1, h2 => by
  unfold pPost
  split
  ·exact ⟨Nat.le_refl _, h, rfl, h1, h2⟩
  rename_i h3
  have h4 := postOp_lt h3
  have h5 := pPost_le t f ps.length (p + 1) (ps ++ [⟨postOp (byteAt t p), 0, [k]⟩]) (by omega) (by omega) (by simp only [List.length_append, List.length_singleton]; omega)
  rw [List.length_append, List.length_singleton] at h5
  refine ⟨by omega, h5.2.1, by omega, h5.2.2.2.1, h5.2.2.2.2⟩
theorem begins_lt {t : ByteArray} {p : Nat} (h : begins (byteAt t p) = true) : p < t.size := by
 apply byteAt_lt; intro h1
 unfold begins labelOk at h; rw [h1] at h; simp at h
theorem pItem_le {t : ByteArray} {E : Nat → List Piece → Option PR} {p : Nat} {ps : List Piece} {r : PR} (hE : ∀ p ps r, p ≤ t.size → E p ps = some r → Reads t p ps r) (hp : p < t.size) (h : pItem t E p ps = some r) : Reads t p ps r := by
 unfold pItem at h
 split at h
 ·split at h
  ·cases h
  rename_i r0 e
  split at h
  ·rename_i h1
   cases h
   have h2 := hE _ _ _ (by omega) e
   have h3 : r0.2.1 < t.size := byteAt_lt (by omega)
   have h4 := pPost_le t (t.size + 1) r0.1 (r0.2.1 + 1) r0.2.2 (by omega) h2.2.2.2.2.1 h2.2.2.2.2.2
   unfold Reads at h2 ⊢
   refine ⟨by omega, h4.2.1, by omega, by omega, h4.2.2.2.1, h4.2.2.2.2⟩
  cases h
 cases h
 have h4 := pPost_le t (t.size + 1) ps.length (p + 1) (ps ++ [⟨1, byteAt t p, []⟩]) (by omega) (by omega) (by simp only [List.length_append, List.length_singleton]; omega)
 rw [List.length_append, List.length_singleton] at h4
 refine ⟨by omega, h4.2.1, by omega, by omega, h4.2.2.2.1, h4.2.2.2.2⟩
theorem pAlts_le {t : ByteArray} {I : Nat → List Piece → Option PR} (hI : ∀ p ps r, p < t.size → I p ps = some r → Reads t p ps r) : ∀ (f : Nat) (ks : List Int) (p : Nat) (ps : List Piece) (r : LR), p ≤ t.size → (∀ k ∈ ks, 0 ≤ k ∧ k < (ps.length : Int)) → pAlts t I f ks p ps = some r → ReadsL t p ps ks.length r
 | 0, ks, p, ps, r, hp, hk, h => by cases h; exact ⟨Nat.le_refl _, Nat.le_refl _, hp, Nat.le_refl _, Nat.le_refl _, hk⟩
 | f + 1, ks, p, ps, r, hp, hk, h => by
  unfold pAlts at h
  split at h
  ·rename_i hb
   split at h
   ·cases h
   rename_i r0 e
   obtain ⟨a1, a2, a3, a4, a5, a6⟩ := hI _ _ _ (begins_lt hb) e
   have h2 := pAlts_le hI f (ks ++ [r0.1]) r0.2.1 r0.2.2 r a2 (by
    intro k hk1
    rcases List.mem_append.1 hk1 with h3 | h3
    ·have := hk k h3; omega
    rw [List.mem_singleton.1 h3]; exact ⟨a5, a6⟩) h
   obtain ⟨b1, b2, b3, b4, b5, b6⟩ := h2
   rw [List.length_append, List.length_singleton] at b1 b4
   exact ⟨by omega, by omega, b3, by omega, by omega, b6⟩
  cases h; exact ⟨Nat.le_refl _, Nat.le_refl _, hp, Nat.le_refl _, Nat.le_refl _, hk⟩
theorem pGroup_le {t : ByteArray} {op : Int} {p : Nat} {ps : List Piece} {r : LR} (hp : p < r.2.1) (h1 : 1 ≤ r.1.length) (h2 : r.2.1 ≤ t.size) (h3 : r.2.2.length + r.1.length + 2 * p ≤ ps.length + 2 * r.2.1) (h4 : ps.length ≤ r.2.2.length) (h5 : ∀ k ∈ r.1, 0 ≤ k ∧ k < (r.2.2.length : Int)) : Reads t p ps (pGroup op r) := by
 unfold pGroup
 split
 ·rename_i e
  have h6 := h5 (r.1[0]?.getD 0) (by rw [List.getElem?_eq_getElem (by omega)]; exact List.getElem_mem _)
  exact ⟨hp, h2, by simp only; omega, h4, h6.1, h6.2⟩
 rename_i e
 refine ⟨hp, h2, ?_, ?_, ?_, ?_⟩ <;> simp only [List.length_append, List.length_singleton] <;> omega
theorem pAlt_le {t : ByteArray} {I : Nat → List Piece → Option PR} (hI : ∀ p ps r, p < t.size → I p ps = some r → Reads t p ps r) {p : Nat} {ps : List Piece} {r : PR} (hp : p ≤ t.size) (h : pAlt t I p ps = some r) : Reads t p ps r := by
 unfold pAlt altEnd at h
 split at h
 ·cases h
 rename_i r0 e
 split at h
 ·cases h
 cases h
 obtain ⟨b1, b2, b3, b4, b5, b6⟩ := pAlts_le hI _ _ _ _ _ hp (by simp) e
 simp only [List.length_nil] at b1 b4
 exact pGroup_le (by omega) (by omega) b3 (by omega) b5 b6
theorem pExprs_le {t : ByteArray} {A : Nat → List Piece → Option PR} (hA : ∀ p ps r, p ≤ t.size → A p ps = some r → Reads t p ps r) {p0 : Nat} {ps0 : List Piece} : ∀ (f : Nat) (ks : List Int) (p : Nat) (ps : List Piece) (r : PR), p ≤ t.size → p0 ≤ p → ps.length + ks.length + 2 * p0 ≤ ps0.length + 2 * p → ps0.length ≤ ps.length → (∀ k ∈ ks, 0 ≤ k ∧ k < (ps.length : Int)) → pExprs t A f ks p ps = some r → Reads t p0 ps0 r
 | 0, ks, p, ps, r, hp, hp0, hs, hs0, hk, h => by cases h
 | f + 1, ks, p, ps, r, hp, hp0, hs, hs0, hk, h => by
  unfold pExprs at h
  split at h
  ·cases h
  rename_i r0 e
  obtain ⟨a1, a2, a3, a4, a5, a6⟩ := hA _ _ _ hp e
  have hk' : ∀ k ∈ ks ++ [r0.1], 0 ≤ k ∧ k < (r0.2.2.length : Int) := by
   intro k hk1
   rcases List.mem_append.1 hk1 with h3 | h3
   ·have := hk k h3; omega
   rw [List.mem_singleton.1 h3]; exact ⟨a5, a6⟩
  split at h
  ·rename_i hb
   have h3 : r0.2.1 < t.size := byteAt_lt (by omega)
   exact pExprs_le hA f _ _ _ _ (by omega) (by omega) (by rw [List.length_append, List.length_singleton]; omega) (by omega) hk' h
  cases h
  exact pGroup_le (by simp only; omega) (by simp) a2 (by simp only [List.length_append, List.length_singleton]; omega) (by simp only; omega) hk'
theorem pExpr_le (t : ByteArray) : ∀ (n p : Nat) (ps : List Piece) (r : PR), p ≤ t.size → pExpr t n p ps = some r → Reads t p ps r
 | 0, _, _, _, _, h => by cases h
 | n + 1, p, ps, r, hp, h => pExprs_le (fun _ _ _ h1 h2 => pAlt_le (fun _ _ _ h3 h4 => pItem_le (pExpr_le t n) h3 h4) h1 h2) _ _ _ _ _ hp (Nat.le_refl _) (by simp) (Nat.le_refl _) (by simp) h
theorem pAlts_more {t : ByteArray} {I : Nat → List Piece → Option PR} {f : Nat} {ks : List Int} {p : Nat} {ps : List Piece} (hb : begins (byteAt t p) = true) {r : PR} (h : I p ps = some r) : pAlts t I (f + 1) ks p ps = pAlts t I f (ks ++ [r.1]) r.2.1 r.2.2 := by
 conv => lhs; unfold pAlts
 rw [if_pos hb, h]
theorem pAlts_bad {t : ByteArray} {I : Nat → List Piece → Option PR} {f : Nat} {ks : List Int} {p : Nat} {ps : List Piece} (hb : begins (byteAt t p) = true) (h : I p ps = none) : pAlts t I (f + 1) ks p ps = none := by
 conv => lhs; unfold pAlts
 rw [if_pos hb, h]
theorem pAlts_end {t : ByteArray} {I : Nat → List Piece → Option PR} {f : Nat} {ks : List Int} {p : Nat} {ps : List Piece} (hb : begins (byteAt t p) = false) : pAlts t I f ks p ps = some (ks, p, ps) := by
 cases f with
 | zero => rfl
 | succ f => unfold pAlts; rw [if_neg (by rw [hb]; simp)]
def kidsOk (ks : List Int) (i : Nat) : Bool := ks.all fun k => inR 0 ((i : Int) - 1) k
def pieceOk (x : Piece) (i : Nat) : Bool :=
 if x.op = 1 then labelOk x.label && decide (x.kids.length = 0)
 else if x.op = 2 ∨ x.op = 3 then decide (x.label = 0) && (decide (2 ≤ x.kids.length) && kidsOk x.kids i)
 else if x.op = 4 ∨ x.op = 5 ∨ x.op = 6 then decide (x.label = 0) && (decide (x.kids.length = 1) && kidsOk x.kids i)
 else false
def pathOk (p : Path) : Bool := decide (1 ≤ p.pieces.length) && (decide (p.pieces.length ≤ 60) && allK (fun i => pieceOk (p.pieces[i]?.getD default) i) p.pieces.length)
theorem pathOk_no {p : Path} {k : Nat} (h1 : k < p.pieces.length) (h : pieceOk (p.pieces[k]?.getD default) k = false) : pathOk p = false := by
 unfold pathOk; rw [allK_no (p := fun i => pieceOk (p.pieces[i]?.getD default) i) h _ h1]; simp
theorem pathOk_out {p : Path} (h : ¬ (1 ≤ p.pieces.length ∧ p.pieces.length ≤ 60)) : pathOk p = false := by
 unfold pathOk
 by_cases h1 : 1 ≤ p.pieces.length
 ·rw [decide_eq_false (fun h2 => h ⟨h1, h2⟩)]; simp
 rw [decide_eq_false h1]; rfl
theorem pathOk_yes {p : Path} (h : 1 ≤ p.pieces.length ∧ p.pieces.length ≤ 60) (h2 : allK (fun i => pieceOk (p.pieces[i]?.getD default) i) p.pieces.length = true) : pathOk p = true := by
 unfold pathOk; rw [h2, decide_eq_true h.1, decide_eq_true h.2]; rfl
theorem kidsOk_no {ks : List Int} {i k : Nat} (hk : k < ks.length) (h : ¬ (0 ≤ (ks[k]?.getD 0) ∧ (ks[k]?.getD 0) ≤ (i : Int) - 1)) : kidsOk ks i = false := by
 cases e : kidsOk ks i with
 | false => rfl
 | true =>
  unfold kidsOk at e
  rw [List.all_eq_true] at e
  rw [List.getElem?_eq_getElem hk] at h
  exact absurd (inR_iff.1 (e _ (List.getElem_mem hk))) h
theorem kidsOk_step {ks : List Int} {i k : Nat} (hk : k < ks.length) (ha : kidsOk (ks.take k) i = true) (h : 0 ≤ (ks[k]?.getD 0) ∧ (ks[k]?.getD 0) ≤ (i : Int) - 1) : kidsOk (ks.take (k + 1)) i = true := by
 unfold kidsOk at *
 rw [List.getElem?_eq_getElem hk] at h
 rw [← List.take_append_getElem hk, List.all_append, ha]
 have := inR_iff.2 h
 simp only [Option.getD_some] at this
 simp [this]
theorem piece1 {x : Piece} {i : Nat} (h : x.op = 1) : pieceOk x i = (labelOk x.label && decide (x.kids.length = 0)) := by unfold pieceOk; rw [if_pos h]
theorem piece_iff {x : Piece} {i : Nat} : pieceOk x i = true ↔ (x.op = 1 ∧ 97 ≤ x.label.toNat ∧ x.label.toNat ≤ 100 ∧ x.kids.length = 0) ∨ ((x.op = 2 ∨ x.op = 3) ∧ x.label.toNat = 0 ∧ 2 ≤ x.kids.length ∧ kidsOk x.kids i = true) ∨ ((x.op = 4 ∨ x.op = 5 ∨ x.op = 6) ∧ x.label.toNat = 0 ∧ x.kids.length = 1 ∧ kidsOk x.kids i = true) := by
 have hl : x.label = 0 ↔ x.label.toNat = 0 := by
  constructor
  ·intro h; rw [h]; rfl
  intro h; exact UInt8.toNat_inj.1 h
 unfold pieceOk
 split
 ·rename_i h; rw [Bool.and_eq_true, labelOk_iff, decide_eq_true_iff]; constructor
  ·intro h1; exact .inl ⟨h, h1.1.1, h1.1.2, h1.2⟩
  rintro (h1 | h1 | h1)
  ·exact ⟨⟨h1.2.1, h1.2.2.1⟩, h1.2.2.2⟩
  ·omega
  omega
 split
 ·rename_i h0 h; rw [Bool.and_eq_true, Bool.and_eq_true, decide_eq_true_iff, decide_eq_true_iff, hl]; constructor
  ·intro h1; exact .inr (.inl ⟨h, h1.1, h1.2.1, h1.2.2⟩)
  rintro (h1 | h1 | h1)
  ·omega
  ·exact ⟨h1.2.1, h1.2.2.1, h1.2.2.2⟩
  omega
 split
 ·rename_i h0 h2 h; rw [Bool.and_eq_true, Bool.and_eq_true, decide_eq_true_iff, decide_eq_true_iff, hl]; constructor
  ·intro h1; exact .inr (.inr ⟨h, h1.1, h1.2.1, h1.2.2⟩)
  rintro (h1 | h1 | h1)
  ·omega
  ·omega
  exact ⟨h1.2.1, h1.2.2.1, h1.2.2.2⟩
 constructor
 ·intro h; cases h
 rintro (h1 | h1 | h1) <;> omega
theorem piece_f {x : Piece} {i : Nat} (h : pieceOk x i = true → False) : pieceOk x i = false := by
 cases e : pieceOk x i with
 | false => rfl
 | true => exact (h e).elim
theorem piece_badkid {x : Piece} {i k : Nat} (h : ¬ x.op = 1) (hk : k < x.kids.length) (h2 : ¬ (0 ≤ (x.kids[k]?.getD 0) ∧ (x.kids[k]?.getD 0) ≤ (i : Int) - 1)) : pieceOk x i = false := by
 refine piece_f fun e => ?_
 have h1 := kidsOk_no hk h2
 rcases piece_iff.1 e with h3 | h3 | h3
 ·exact h h3.1
 ·rw [h1] at h3; cases h3.2.2.2
 rw [h1] at h3; cases h3.2.2.2
theorem piece_end {x : Piece} {i : Nat} (h : ((x.op = 2 ∨ x.op = 3) ∧ 2 ≤ x.kids.length) ∨ ((x.op = 4 ∨ x.op = 5 ∨ x.op = 6) ∧ x.kids.length = 1)) (hk : kidsOk x.kids i = true) : pieceOk x i = (((x.label.toNat : Nat) : Int) == 0) := by
 rw [Bool.eq_iff_iff, piece_iff, hk]
 simp
 omega
theorem piece_yes {x : Piece} {i : Nat} (h : ((x.op = 2 ∨ x.op = 3) ∧ 2 ≤ x.kids.length) ∨ ((x.op = 4 ∨ x.op = 5 ∨ x.op = 6) ∧ x.kids.length = 1)) (hl : x.label.toNat = 0) (hk : kidsOk x.kids i = true) : pieceOk x i = true := by
 rw [piece_end h hk, hl]; rfl
theorem piece_step {x : Piece} {i : Nat} (h : x.op = 1) (hl : labelOk x.label = true) : pieceOk x i = (((x.kids.length : Nat) : Int) == 0) := by
 rw [piece1 h, hl, Bool.true_and, Bool.eq_iff_iff]; simp
def readPath (t : ByteArray) : Option Path :=
 if t.size ≤ 20 then
  match pExpr t (t.size + 1) 0 [] with
  | none => none
  | some r => if r.2.1 = t.size ∧ pathOk ⟨r.2.2⟩ = true then some ⟨r.2.2⟩ else none
 else none
end
end Go.Proofs.YtcnclhjhnjpeiaaGreatDoor
