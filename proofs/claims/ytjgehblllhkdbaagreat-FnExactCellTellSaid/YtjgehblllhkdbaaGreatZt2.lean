/-
 Parts of the law, put together. Conditions: none.
-/
import Derived.Test.YtjgehblllhkdbaaGreatZt1
set_option maxHeartbeats 4000000
set_option linter.unusedSimpArgs false
set_option linter.unusedVariables false
namespace Go.SX
structure Gt (α : Type) extends Rp α where
 ow : List Value → α → Hp → Prop
 owrd : ∀ {l : List Value} {x : α} {A : Hp}, ow l x A → rd A l x
 owp : ∀ {l : List Value} {x : α} {A A' : Hp}, ow l x A → A'.Perm A → ow l x A'
 one : ∀ {H : Hp} {l : List Value} {x : α}, rd H l x → allOne l = true
 pos : 0 < size
 cnt : α → Nat
 mark : Int → α → α
 cntV : α → Nat
 markV : Int → α → α
 sz : α → Nat
 w : Nat
 cnt_le : ∀ x, cnt x ≤ w * (1 + sz x)
 cntV_le : ∀ x, cntV x ≤ w * (1 + sz x)
def Fl.gt {α : Type} (f : Fl α) (mk : Int → α) (sz : α → Nat := fun _ => 0) : Gt α where
 toRp := f.rp
 ow l x A := l = f.enc x ∧ f.wf x ∧ A = []
 owrd h := ⟨h.1, h.2.1⟩
 owp h hp := ⟨h.1, h.2.1, by rw [h.2.2] at hp; exact hp.eq_nil⟩
 one h := by rw [h.1]; exact f.one _
 pos := f.pos
 cnt _ := 1
 mark k _ := mk k
 cntV _ := 0
 markV _ x := x
 sz := sz
 w := 1
 cnt_le x := by omega
 cntV_le x := by omega
abbrev RawC (s : Nat) : Type := { l : List Value // l.length = s ∧ allOne l = true }
def flRaw (s : Nat) (hs : 0 < s) : Fl (RawC s) := ⟨s, fun l => l.1, fun _ => True, fun l => l.2.1, fun l => l.2.2, hs⟩
section
variable {α : Type}
inductive OwL (g : Gt α) : List (RawC g.size) → List α → List Hp → Prop where
 | nil : OwL g [] [] []
 | cons {l : RawC g.size} {x : α} {A : Hp} {ls : List (RawC g.size)} {xs : List α} {As : List Hp} : g.ow l.1 x A → OwL g ls xs As → OwL g (l :: ls) (x :: xs) (A :: As)
theorem OwL.len {g : Gt α} {ls : List (RawC g.size)} {xs : List α} {As : List Hp} (h : OwL g ls xs As) : ls.length = xs.length ∧ As.length = xs.length := by
 induction h with
 | nil => exact ⟨rfl, rfl⟩
 | cons _ _ ih => simp [ih]
theorem OwL.get {g : Gt α} {ls : List (RawC g.size)} {xs : List α} {As : List Hp} (h : OwL g ls xs As) : ∀ (i : Nat) (h1 : i < xs.length) (h2 : i < ls.length) (h3 : i < As.length), g.ow (ls[i]).1 xs[i] As[i] := by
 induction h with
 | nil => intro i h1; simp at h1
 | cons h hr ih =>
  intro i h1 h2 h3
  cases i with
  | zero => exact h
  | succ i => exact ih i (by simpa using h1) (by simpa using h2) (by simpa using h3)
theorem OwL.append {g : Gt α} {ls ls' : List (RawC g.size)} {xs xs' : List α} {As As' : List Hp} (h : OwL g ls xs As) (h' : OwL g ls' xs' As') : OwL g (ls ++ ls') (xs ++ xs') (As ++ As') := by
 induction h with
 | nil => exact h'
 | cons h hr ih => exact .cons h ih
theorem OwL.set {g : Gt α} {ls : List (RawC g.size)} {xs : List α} {As : List Hp} (h : OwL g ls xs As) {l : RawC g.size} {y : α} {B : Hp} (hy : g.ow l.1 y B) : ∀ (i : Nat), OwL g (ls.set i l) (xs.set i y) (As.set i B) := by
 induction h with
 | nil => intro i; exact .nil
 | cons h hr ih =>
  intro i
  cases i with
  | zero => exact .cons hy hr
  | succ i => exact .cons h (ih i)
theorem OwL.take {g : Gt α} {ls : List (RawC g.size)} {xs : List α} {As : List Hp} (h : OwL g ls xs As) : ∀ (i : Nat), OwL g (ls.take i) (xs.take i) (As.take i) := by
 induction h with
 | nil => intro i; simp; exact .nil
 | cons h hr ih =>
  intro i
  cases i with
  | zero => exact .nil
  | succ i => exact .cons h (ih i)
theorem OwL.rep {g : Gt α} {l : RawC g.size} {z : α} (hz : g.ow l.1 z []) : ∀ n, OwL g (List.replicate n l) (List.replicate n z) (List.replicate n [])
 | 0 => .nil
 | n + 1 => .cons hz (OwL.rep hz n)
def mkL (g : Gt α) : Int → List α → List α
 | _, [] => []
 | k, x :: r => g.mark k x :: mkL g (k + g.cnt x) r
def cntL (g : Gt α) : List α → Nat
 | [] => 0
 | x :: r => g.cnt x + cntL g r
theorem mkL_len (g : Gt α) : ∀ (xs : List α) (k : Int), (mkL g k xs).length = xs.length
 | [], _ => rfl
 | x :: r, k => by simp [mkL, mkL_len g r]
theorem cntL_append (g : Gt α) : ∀ (xs ys : List α), cntL g (xs ++ ys) = cntL g xs + cntL g ys
 | [], ys => by simp [cntL]
 | x :: r, ys => by simp [cntL, cntL_append g r]; omega
theorem mkL_append (g : Gt α) : ∀ (xs ys : List α) (k : Int), mkL g k (xs ++ ys) = mkL g k xs ++ mkL g (k + cntL g xs) ys
 | [], ys, k => by simp [mkL, cntL]
 | x :: r, ys, k => by simp [mkL, mkL_append g r, cntL, Int.add_assoc]
def szL (g : Gt α) : List α → Nat
 | [] => 0
 | x :: r => 1 + g.sz x + szL g r
theorem len_szL (g : Gt α) : ∀ (xs : List α), xs.length ≤ szL g xs
 | [] => Nat.le_refl _
 | x :: r => by have := len_szL g r; simp only [szL, List.length_cons]; omega
theorem cntL_le (g : Gt α) : ∀ (xs : List α), cntL g xs ≤ g.w * szL g xs
 | [] => by simp [cntL]
 | x :: r => by
  have h1 := g.cnt_le x
  have h2 := cntL_le g r
  simp only [cntL, szL]
  rw [Nat.mul_add g.w (1 + g.sz x) (szL g r)]
  omega
theorem flat_lists (As : List Hp) (i : Nat) (hi : i < As.length) : As.flatten.Perm (As[i] ++ (As.set i []).flatten) := by
 induction As generalizing i with
 | nil => simp at hi
 | cons A r ih =>
  cases i with
  | zero => simp
  | succ i =>
   have h := ih i (by simpa using hi)
   simp only [List.flatten_cons, List.getElem_cons_succ, List.set_cons_succ]
   refine (h.append_left A).trans ?_
   rw [← List.append_assoc, ← List.append_assoc]
   exact List.perm_append_comm.append_right _
def gSl (T : TypeId) (g : Gt α) : Gt (List α) where
 toRp := rpSl g.toRp
 ow l xs A := ∃ v ls A0 As, l = [v] ∧ Ow (flRaw g.size g.pos) T v ls A0 ∧ A.Perm (A0 ++ As.flatten) ∧ OwL g ls xs As
 owrd := by
  rintro l xs A ⟨v, ls, A0, As, rfl, ho, hp, hl⟩
  obtain ⟨base, cap, e, h1, h2⟩ := ho.rd
  obtain ⟨e1, e2⟩ := hl.len
  refine ⟨base, cap, by rw [← e1]; exact e, by rw [← e1]; exact h1, fun i hi => ?_⟩
  obtain ⟨b, o, l', h3, h4, h5⟩ := h2 i (by rw [e1]; exact hi)
  have hsub : ∀ p ∈ A0, p ∈ A := fun p hp' => hp.mem_iff.2 (List.mem_append_left _ hp')
  refine ⟨b, o, l', h3, h4.mono hsub, ?_⟩
  have h6 : l' = (ls[i]'(by rw [e1]; exact hi)).1 := h5.1
  rw [h6]
  refine g.mono (fun p hp' => hp.mem_iff.2 (List.mem_append_right _ ?_)) (g.owrd (hl.get i hi (by rw [e1]; exact hi) (by rw [e2]; exact hi)))
  exact List.mem_flatten.2 ⟨_, List.getElem_mem _, hp'⟩
 owp := by
  rintro l xs A A' ⟨v, ls, A0, As, rfl, ho, hp, hl⟩ h'
  exact ⟨v, ls, A0, As, rfl, ho, h'.trans hp, hl⟩
 one := by
  rintro H l xs ⟨_, _, rfl, _⟩; rfl
 pos := by show 0 < 1; omega
 cnt := cntL g
 mark := mkL g
 cntV := cntL g
 markV := mkL g
 sz := szL g
 w := g.w
 cnt_le xs := Nat.le_trans (cntL_le g xs) (Nat.mul_le_mul_left _ (by omega))
 cntV_le xs := Nat.le_trans (cntL_le g xs) (Nat.mul_le_mul_left _ (by omega))
theorem sl_rd {T : TypeId} {g : Gt α} {H : Hp} {l : List Value} {xs : List α} (h : (gSl T g).rd H l xs) : ∃ b c, l = [.slice b xs.length c] ∧ (gSl T g).rd H [.slice b xs.length c] xs := by
 obtain ⟨b, c, rfl, h1, h2⟩ := h
 exact ⟨b, c, rfl, b, c, rfl, h1, h2⟩
theorem sl_ow {T : TypeId} {g : Gt α} {A : Hp} {l : List Value} {xs : List α} (h : (gSl T g).ow l xs A) : ∃ b c, l = [.slice b xs.length c] ∧ (gSl T g).ow [.slice b xs.length c] xs A := by
 obtain ⟨b, c, rfl, h1, h2⟩ := (gSl T g).owrd h
 exact ⟨b, c, rfl, h⟩
theorem sl_len {T : TypeId} {g : Gt α} {H : Hp} {b : Option Addr} {m c : Nat} {xs : List α} (h : (gSl T g).rd H [.slice b m c] xs) : m = xs.length ∧ xs.length ≤ c ∧ xs.length ≤ 9223372036854775807 := by
 obtain ⟨b, c, e, h1, h2⟩ := h; cases e; exact ⟨rfl, h1⟩
theorem sl_nil (T : TypeId) (g : Gt α) (b : Option Addr) : (gSl T g).ow [.slice b 0 0] [] [] := ⟨_, [], [], [], rfl, Ow.nil _ _, by simp, .nil⟩
theorem fl_ow {f : Fl α} {mk : Int → α} {sz : α → Nat} {T : TypeId} {v : Value} {xs : List α} {A : Hp} (h : (gSl T (f.gt mk sz)).ow [v] xs A) : Ow f T v xs A := by
 obtain ⟨v', ls, A0, As, e, ho, hp, hl⟩ := h
 cases e
 have hA : ∀ {ls : List (RawC (f.gt mk sz).size)} {xs : List α} {As : List Hp}, OwL (f.gt mk sz) ls xs As → As.flatten = [] ∧ (∀ x ∈ xs, f.wf x) ∧ ls.flatMap (flRaw (f.gt mk sz).size (f.gt mk sz).pos).enc = xs.flatMap f.enc := by
  intro ls xs As h
  induction h with
  | nil => exact ⟨rfl, (fun _ h => by cases h), rfl⟩
  | cons h hr ih =>
   obtain ⟨h1, h2, h3⟩ := h
   refine ⟨by rw [List.flatten_cons, h3, ih.1]; rfl, ?_, ?_⟩
   ·intro y hy
    rcases List.mem_cons.1 hy with rfl | hy
    ·exact h2
    exact ih.2.1 y hy
   rw [List.flatMap_cons, List.flatMap_cons, ih.2.2]; congr 1
 obtain ⟨h1, h2, h3⟩ := hA hl
 rw [h1, List.append_nil] at hp
 obtain ⟨e1, _⟩ := hl.len
 obtain ⟨_, g1, base, cap, e, g2⟩ := ho
 rw [e1] at g1 e
 refine ⟨h2, g1, base, cap, e, ?_⟩
 rcases g2 with ⟨rfl, rfl, rfl⟩ | ⟨b, sp, g3, rfl, g4, g5⟩
 ·have : xs = [] := by cases hl; rfl
  exact .inl ⟨rfl, this, hp.eq_nil⟩
 refine .inr ⟨b, sp, g3, ?_, by rw [← e1]; exact g4, by rw [← e1]; exact g5⟩
 rw [← h3]
 exact List.perm_singleton.1 hp
theorem ow_fl {f : Fl α} {mk : Int → α} {sz : α → Nat} {T : TypeId} {v : Value} {xs : List α} {A : Hp} (h : Ow f T v xs A) : (gSl T (f.gt mk sz)).ow [v] xs A := by
 obtain ⟨h1, h2, base, cap, rfl, h3⟩ := h
 have key : ∀ (xs : List α), (∀ x ∈ xs, f.wf x) → ∃ ls As, OwL (f.gt mk sz) ls xs As ∧ As.flatten = [] ∧ ls.flatMap (flRaw (f.gt mk sz).size (f.gt mk sz).pos).enc = xs.flatMap f.enc := by
  intro xs
  induction xs with
  | nil => intro _; exact ⟨[], [], .nil, rfl, rfl⟩
  | cons x r ih =>
   intro hw
   obtain ⟨ls, As, g1, g2, g3⟩ := ih (fun y hy => hw y (List.mem_cons_of_mem _ hy))
   refine ⟨⟨f.enc x, f.len x, f.one x⟩ :: ls, [] :: As, .cons ⟨rfl, hw x (List.mem_cons_self ..), rfl⟩ g1, by rw [List.flatten_cons, g2]; rfl, ?_⟩
   exact congrArg (fun q => f.enc x ++ q) g3
 obtain ⟨ls, As, g1, g2, g3⟩ := key xs h1
 obtain ⟨e1, _⟩ := g1.len
 refine ⟨_, ls, A, As, rfl, ⟨fun _ _ => trivial, by rw [e1]; exact h2, base, cap, by rw [e1], ?_⟩, by rw [g2, List.append_nil], g1⟩
 rcases h3 with ⟨rfl, rfl, rfl⟩ | ⟨b, sp, h4, rfl, h5, h6⟩
 ·have : ls = [] := by cases g1; rfl
  exact .inl ⟨rfl, this, rfl⟩
 exact .inr ⟨b, sp, h4, by rw [g3], by rw [e1]; exact h5, by rw [e1]; exact h6⟩
end
def gPair {α β : Type} (g : Gt α) (h : Gt β) : Gt (α × β) where
 size := g.size + h.size
 rd H l x := ∃ l1 l2, l = l1 ++ l2 ∧ g.rd H l1 x.1 ∧ h.rd H l2 x.2
 mono hh := by rintro ⟨l1, l2, e, h1, h2⟩; exact ⟨l1, l2, e, g.mono hh h1, h.mono hh h2⟩
 len := by rintro H l x ⟨l1, l2, rfl, h1, h2⟩; rw [List.length_append, g.len h1, h.len h2]
 ow l x A := ∃ l1 l2 A1 A2, l = l1 ++ l2 ∧ A.Perm (A1 ++ A2) ∧ g.ow l1 x.1 A1 ∧ h.ow l2 x.2 A2
 owrd := by
  rintro l x A ⟨l1, l2, A1, A2, rfl, hp, h1, h2⟩
  exact ⟨l1, l2, rfl, g.mono (fun p hp' => hp.mem_iff.2 (List.mem_append_left _ hp')) (g.owrd h1), h.mono (fun p hp' => hp.mem_iff.2 (List.mem_append_right _ hp')) (h.owrd h2)⟩
 owp := by
  rintro l x A A' ⟨l1, l2, A1, A2, rfl, hp, h1, h2⟩ h'
  exact ⟨l1, l2, A1, A2, rfl, h'.trans hp, h1, h2⟩
 one := by rintro H l x ⟨l1, l2, rfl, h1, h2⟩; exact allOne_append _ _ (g.one h1) (h.one h2)
 pos := by have := g.pos; omega
 cnt x := g.cnt x.1 + h.cnt x.2
 mark k x := (g.mark k x.1, h.mark (k + g.cnt x.1) x.2)
 cntV x := g.cntV x.1 + h.cntV x.2
 markV k x := (g.markV k x.1, h.markV (k + g.cntV x.1) x.2)
 sz x := g.sz x.1 + h.sz x.2
 w := g.w + h.w
 cnt_le x := Nat.le_trans (Nat.add_le_add (g.cnt_le x.1) (h.cnt_le x.2)) (by
  rw [Nat.add_mul]; exact Nat.add_le_add (Nat.mul_le_mul_left _ (by omega)) (Nat.mul_le_mul_left _ (by omega)))
 cntV_le x := Nat.le_trans (Nat.add_le_add (g.cntV_le x.1) (h.cntV_le x.2)) (by
  rw [Nat.add_mul]; exact Nat.add_le_add (Nat.mul_le_mul_left _ (by omega)) (Nat.mul_le_mul_left _ (by omega)))
def gIso {α β : Type} (g : Gt α) (f : β → α) (f' : α → β) : Gt β where
 size := g.size
 rd H l x := g.rd H l (f x)
 mono hh h := g.mono hh h
 len h := g.len h
 ow l x A := g.ow l (f x) A
 owrd h := g.owrd h
 owp h hp := g.owp h hp
 one h := g.one h
 pos := g.pos
 cnt x := g.cnt (f x)
 mark k x := f' (g.mark k (f x))
 cntV x := g.cntV (f x)
 markV k x := f' (g.markV k (f x))
 sz x := g.sz (f x)
 w := g.w
 cnt_le x := g.cnt_le (f x)
 cntV_le x := g.cntV_le (f x)
section
variable {α : Type} {g : Gt α} {T : TypeId}
theorem set_split {β : Type} (ls : List β) (i : Nat) (q : β) (h : i < ls.length) : ls.set i q = ls.take i ++ q :: ls.drop (i + 1) := by
 rw [List.set_eq_take_append_cons_drop, if_pos h]
theorem raw_of {H : Hp} {l : List Value} {x : α} (h : g.rd H l x) : l.length = g.size ∧ allOne l = true := ⟨g.len h, g.one h⟩
theorem gopen {base : Option Addr} {m cap : Nat} {xs : List α} {A : Hp} (h : (gSl T g).ow [.slice base m cap] xs A) (i : Nat) (hi : i < xs.length) :
  ∃ lx Ax rest b o, base = some ⟨b, o, none⟩ ∧ A.Perm (Ax ++ rest) ∧ g.ow lx xs[i] Ax ∧ RdCells rest b (o + i * g.size) g.size lx ∧ ∀ y Ay A', g.ow lx y Ay → A'.Perm (Ay ++ rest) → (gSl T g).ow [.slice base m cap] (xs.set i y) A' := by
 obtain ⟨v, ls, A0, As, e, ho, hp, hl⟩ := h
 cases e
 obtain ⟨e1, e2⟩ := hl.len
 have h0 := hl.get i hi (by omega) (by omega)
 obtain ⟨base', cap', ee, _, hrd⟩ := ho.rd
 cases ee
 obtain ⟨b, o, l', k1, k2, k3, _⟩ := hrd i (by omega)
 have k3 : l' = (ls[i]'(by omega)).1 := k3
 refine ⟨(ls[i]'(by omega)).1, As[i]'(by omega), A0 ++ (As.set i []).flatten, b, o, k1, ?_, h0, ?_, ?_⟩
 ·refine hp.trans (((flat_lists As i (by omega)).append_left A0).trans ?_)
  rw [← List.append_assoc, ← List.append_assoc]
  exact List.perm_append_comm.append_right _
 ·rw [← k3]; exact k2.mono fun p hp' => List.mem_append_left _ hp'
 intro y Ay A' hy hA'
 refine ⟨_, ls, A0, As.set i Ay, rfl, ho, ?_, ?_⟩
 ·refine hA'.trans ?_
  have h1 := flat_lists (As.set i Ay) i (by simpa using (by omega : i < As.length))
  simp only [List.getElem_set_self, List.set_set] at h1
  have h2 := h1.append_left A0
  refine List.Perm.trans ?_ h2.symm
  rw [← List.append_assoc, ← List.append_assoc]
  exact List.perm_append_comm.append_right _
 have := hl.set (l := ls[i]'(by omega)) (y := y) (B := Ay) hy i
 rw [List.set_getElem_self] at this
 exact this
theorem gstore {R : List Hp} {A : Hp} {base : Option Addr} {m cap : Nat} {xs : List α} {i : Int} {b o off : Nat} {l : List Value} {F : List Hp → Prop} (n : Nat) (hn : nthR R n = some A) (h : (gSl T g).ow [.slice base m cap] xs A)
  (h0 : 0 ≤ i) (h1 : i < xs.length) (hb : base = some ⟨b, o, none⟩) (d : Nat) (hoff : off = o + i.toNat * g.size + d) (y : α)
  (hy : ∀ lx Ax, g.ow lx (xs[i.toNat]'(by omega)) Ax → d + l.length ≤ g.size ∧ ∃ Ay, g.ow (setAt lx d l) y Ay ∧ Ax.Perm Ay)
  (k : ∀ A', A'.length = A.length → (gSl T g).ow [.slice base m cap] (xs.set i.toNat y) A' → F (setR R n A')) : VCstore R b off l F := by
 obtain ⟨v, ls, A0, As, e, ho, hp, hl⟩ := h
 cases e
 obtain ⟨e1, e2⟩ := hl.len
 have hi : i.toNat < xs.length := by omega
 have g0 := hl.get i.toNat hi (by omega) (by omega)
 obtain ⟨hd, Ay, hoy, hperm⟩ := hy _ _ g0
 subst hoff
 obtain ⟨hw, hlen, base', cap', e, h2⟩ := ho
 cases e
 rcases h2 with ⟨rfl, rfl, rfl⟩ | ⟨b', sp, h3, rfl, h4, h5⟩
 ·simp at e1; omega
 rw [hb] at h3; cases h3
 have hmem : (b, Obj.cells ⟨ls.flatMap (flRaw g.size g.pos).enc ++ sp⟩ T) ∈ A := hp.mem_iff.2 (List.mem_append_left _ (List.mem_singleton.2 rfl))
 obtain ⟨s, t, hst⟩ := List.append_of_mem hmem
 obtain ⟨pre, post, h6, h7⟩ := nthR_split hn
 have hoyr := raw_of (g.owrd hoy)
 have hsl : setAt (ls.flatMap (flRaw g.size g.pos).enc ++ sp) (i.toNat * g.size + d) l = (ls.set i.toNat ⟨setAt (ls[i.toNat]'(by omega)).1 d l, hoyr⟩).flatMap (flRaw g.size g.pos).enc ++ sp := by
  have e3 : ls.flatMap (flRaw g.size g.pos).enc = (ls.take i.toNat).flatMap (flRaw g.size g.pos).enc ++ ((ls[i.toNat]'(by omega)).1 ++ (ls.drop (i.toNat + 1)).flatMap (flRaw g.size g.pos).enc) := by
   conv => lhs; rw [← List.take_append_drop i.toNat ls, List.drop_eq_getElem_cons (by omega : i.toNat < ls.length)]
   rw [List.flatMap_append, List.flatMap_cons]; rfl
  have e4 : ((ls.take i.toNat).flatMap (flRaw g.size g.pos).enc).length = i.toNat * g.size := by
   rw [flat_length, List.length_take, Nat.min_eq_left (by omega)]; rfl
  have e5 : (ls[i.toNat]'(by omega)).1.length = g.size := (ls[i.toNat]'(by omega)).2.1
  have e6 : (ls.set i.toNat ⟨setAt (ls[i.toNat]'(by omega)).1 d l, hoyr⟩).flatMap (flRaw g.size g.pos).enc = (ls.take i.toNat).flatMap (flRaw g.size g.pos).enc ++ (setAt (ls[i.toNat]'(by omega)).1 d l ++ (ls.drop (i.toNat + 1)).flatMap (flRaw g.size g.pos).enc) := by
   rw [set_split _ _ _ (by omega), List.flatMap_append, List.flatMap_cons]; rfl
  rw [e6, e3]
  have gen : ∀ (P0 C Q : List Value), P0.length = i.toNat * g.size → d + l.length ≤ C.length → setAt (P0 ++ (C ++ Q) ++ sp) (i.toNat * g.size + d) l = P0 ++ (setAt C d l ++ Q) ++ sp := by
   intro P0 C Q hP hC
   rw [setAt_eq _ _ _ (by simp only [List.length_append]; omega), setAt_eq _ _ _ hC]
   simp only [List.append_assoc]
   rw [List.take_append, List.drop_append, List.take_of_length_le (by omega), List.drop_eq_nil_of_le (by omega : P0.length ≤ i.toNat * g.size + d + l.length)]
   rw [show i.toNat * g.size + d - P0.length = d by omega, show i.toNat * g.size + d + l.length - P0.length = d + l.length by omega]
   rw [List.take_append_of_le_length (by omega), List.drop_append_of_le_length (by omega)]
   simp only [List.append_assoc, List.nil_append]
  exact gen _ _ _ e4 (by rw [e5]; exact hd)
 refine .intro (setR R n (s ++ (b, Obj.cells ⟨(ls.set i.toNat ⟨setAt (ls[i.toNat]'(by omega)).1 d l, hoyr⟩).flatMap (flRaw g.size g.pos).enc ++ sp⟩ T) :: t)) ?_ (k _ (by rw [hst]; simp) ⟨_, ls.set i.toNat ⟨setAt (ls[i.toNat]'(by omega)).1 d l, hoyr⟩, [(b, Obj.cells ⟨(ls.set i.toNat ⟨setAt (ls[i.toNat]'(by omega)).1 d l, hoyr⟩).flatMap (flRaw g.size g.pos).enc ++ sp⟩ T)], As.set i.toNat Ay, rfl, ⟨fun _ _ => trivial, by simpa using hlen, some ⟨b, 0, none⟩, cap, by rw [hb, List.length_set], .inr ⟨b, sp, rfl, rfl, by simpa using h4, by simpa using h5⟩⟩, ?_, hl.set hoy i.toNat⟩)
 ·refine ⟨pre, post, s, t, ⟨ls.flatMap (flRaw g.size g.pos).enc ++ sp⟩, T, by rw [h6, hst], ?_, ?_⟩
  ·show 0 + i.toNat * g.size + d + l.length ≤ (ls.flatMap (flRaw g.size g.pos).enc ++ sp).length
   rw [List.length_append, flat_length]
   have : (flRaw g.size g.pos).size = g.size := rfl
   rw [this]
   have := Nat.mul_le_mul_right g.size (show i.toNat + 1 ≤ ls.length by omega)
   rw [Nat.succ_mul] at this; omega
  rw [h7]
  simp only [Nat.zero_add]
  rw [hsl]
 rw [hst] at hp
 have h8 : (s ++ t).Perm As.flatten := by
  have := (List.perm_middle (a := (b, Obj.cells ⟨ls.flatMap (flRaw g.size g.pos).enc ++ sp⟩ T)) (l₁ := s) (l₂ := t)).symm.trans hp
  exact (List.perm_cons _).1 this
 have h9 : As.flatten.Perm (As.set i.toNat Ay).flatten := by
  have q1 := flat_lists As i.toNat (by omega)
  have q2 := flat_lists (As.set i.toNat Ay) i.toNat (by simpa using (by omega : i.toNat < As.length))
  simp only [List.getElem_set_self, List.set_set] at q2
  exact q1.trans ((hperm.append_right _).trans q2.symm)
 refine List.perm_middle.trans ?_
 exact List.Perm.cons _ (h8.trans h9)
end
end Go.SX
namespace Go.SX
section
variable {P : Program} {E : World} {Γ : Ty} {n : Nat} {α : Type} {g : Gt α} {T : TypeId}
theorem VCraw.conv {o : Oper} {fr : Fr} {bl : List Blk} {R R2 : List Hp} {K : St → Prop} (h0 : RLe R R2)
  (h : VCraw P E n o ⟨fr, bl, R2⟩ (fun st => ∃ R', RLe st.R R' ∧ K ⟨st.fr, st.bl, R'⟩)) : VCraw P E n o ⟨fr, bl, R⟩ K := by
 obtain ⟨h⟩ := h
 refine ⟨fun a w hr Q => ?_⟩
 refine Oper.wp_next (h a w (hr.repart h0) Q) ?_
 rintro a' w' ⟨st, h1, R', h2, h3⟩
 obtain ⟨fr', bl', R''⟩ := st
 exact ⟨_, h1.repart h2, h3⟩
theorem lit_rd {f : Fl α} {b : Nat} {l : List Value} {y : α} {T' : TypeId} {H : Hp} (hm : (b, Obj.cells ⟨l⟩ T') ∈ H) (hl : l = f.enc y) (hy : f.wf y) : (rpSl f.rp).rd H [.slice (some ⟨b, 0, none⟩) 1 1] [y] := by
 subst hl
 refine ⟨some ⟨b, 0, none⟩, 1, rfl, by simp, fun i hi => ?_⟩
 have : i = 0 := by simpa using hi
 subst this
 refine ⟨b, 0, f.enc y, rfl, ⟨f.len y, _, _, _, hm, fun j hj => ?_⟩, rfl, hy⟩
 simp
theorem putK_mono {fr : Fr} {dst : Option Nat} {s : SV} {K K' : Fr → Prop} (h : putK n fr dst s K) (hk : ∀ fr, K fr → K' fr) : putK n fr dst s K' := by
 unfold putK at h ⊢
 split at h
 ·exact hk _ h
 split at h
 ·exact hk _ h
 exact h.elim
theorem gappend1 (hΓ : TyOk P Γ) {dst : Option Nat} {s x : Operand} {sT xT e2 ty : TypeId} {pos : String} {after : Array Edge} {guard : Option (Nat × Bool)} {fr : Fr} {bl : List Blk} {R : List Hp} {K : St → Prop} {ti : TI}
  (A B : Hp) (Rr : List Hp) {base : Option Addr} {xb m cap : Nat} {xs : List α} {l : List Value} {y : α} {T' : TypeId} (hR : RLe R (A :: B :: Rr)) (ho : (gSl T g).ow [.slice base m cap] xs A) (hB : g.ow l y B)
  (hlit : [(xb, Obj.cells ⟨l⟩ T')] ∈ R)
  (hs1 : getK fr s fun sv => sv = .v (.slice base m cap)) (hx1 : getK fr x fun sv => sv = .v (.slice (some ⟨xb, 0, none⟩) 1 1))
  (hsT : undOf Γ sT = some (.slice T)) (hxT : undOf Γ xT = some (.slice e2)) (ht : tyOf Γ T = some ti) (hsz : ti.size = g.size) (hz : lenIs ti.zero.cells.toList g.size = true)
  (hby : Nat.ble ti.bytes 65536 = true) (hlen : xs.length + 1 ≤ 1073741824)
  (hk : ∀ base' cap' A', (gSl T g).ow [.slice base' (xs ++ [y]).length cap'] (xs ++ [y]) A' → putK n fr dst (.v (.slice base' (xs ++ [y]).length cap')) fun fr => K ⟨fr, bl, A' :: Rr⟩) :
  VCraw P E n ⟨dst, .call ⟨.builtin .append, #[s, x], #[sT, xT]⟩, ty, pos, after, guard⟩ ⟨fr, bl, R⟩ K := by
 have e0 : (xs ++ [y]).length = xs.length + 1 := by simp
 simp only [e0] at hk
 obtain ⟨v, ls, A0, As, e, ho, hp, hl⟩ := ho
 cases e
 obtain ⟨L, hL⟩ := hR
 obtain ⟨e1, e2'⟩ := hl.len
 have hm : m = ls.length := (by obtain ⟨_, _, _, _, e, _⟩ := ho; cases e; rfl)
 subst hm
 have hraw := raw_of (g.owrd hB)
 have hperm : R.flatten.Perm (A0 ++ (As.flatten ++ (B ++ (Rr.flatten ++ L)))) := by
  refine hL.trans ?_
  simp only [List.flatten_cons]
  have := hp.append_right (B ++ (Rr.flatten ++ L))
  simpa only [List.append_assoc] using this
 refine VCraw.conv (R2 := [A0, As.flatten ++ (B ++ (Rr.flatten ++ L))]) ⟨[], by simpa using hperm⟩ ?_
 have hmem : (xb, Obj.cells ⟨l⟩ T') ∈ St.hall ⟨[], bl, [A0, As.flatten ++ (B ++ (Rr.flatten ++ L))]⟩ := by
  have h1 : (xb, Obj.cells ⟨l⟩ T') ∈ R.flatten := List.mem_flatten.2 ⟨_, hlit, List.mem_singleton.2 rfl⟩
  have h2 := hperm.mem_iff.1 h1
  simp only [St.hall, List.flatten_cons, List.flatten_nil, List.append_nil]
  exact List.mem_append_right _ h2
 have hx : (rpSl (flRaw g.size g.pos).rp).rd (St.hall ⟨[], bl, [A0, As.flatten ++ (B ++ (Rr.flatten ++ L))]⟩) [.slice (some ⟨xb, 0, none⟩) 1 1] [⟨l, hraw⟩] := lit_rd (f := flRaw g.size g.pos) hmem rfl trivial
 refine append_ow (f := flRaw g.size g.pos) hΓ 0 rfl ho hx (fun _ _ => trivial) hs1 hx1 hsT hxT ht hsz hz hby (by rw [e1]; exact hlen) ?_
 intro base' cap' A' ho' _
 have h3 : (gSl T g).ow [.slice base' (xs.length + 1) cap'] (xs ++ [y]) (A' ++ (As ++ [B]).flatten) := by
  refine ⟨_, ls ++ [⟨l, hraw⟩], A', As ++ [B], rfl, ?_, .refl _, hl.append (.cons hB .nil)⟩
  rw [← e1]; exact ho'
 have h4 := hk base' cap' _ h3
 have e3 : ls.length + [(⟨l, hraw⟩ : RawC g.size)].length = xs.length + 1 := by rw [e1]; rfl
 rw [e3]
 refine putK_mono h4 fun fr' hK => ⟨_, ?_, hK⟩
 refine ⟨L, ?_⟩
 simp only [setR, List.flatten_cons, List.flatten_nil, List.append_nil, List.flatten_append]
 simp only [List.append_assoc]
 exact .refl _
open Classical in
theorem gstore1 {R : List Hp} (A B : Hp) (Rr : List Hp) {base : Option Addr} {m cap : Nat} {xs : List α} {i : Int} {b o off : Nat} {l : List Value} {F : List Hp → Prop} (hR : RLe R (A :: B :: Rr)) (h : (gSl T g).ow [.slice base m cap] xs A)
  (h0 : 0 ≤ i) (h1 : i < xs.length) (hb : base = some ⟨b, o, none⟩) (hoff : off = o + i.toNat * g.size) (y : α) (hy : g.ow l y B)
  (k : ∀ A', (gSl T g).ow [.slice base m cap] (xs.set i.toNat y) A' → F (A' :: Rr)) : VCstore R b off l F := by
 obtain ⟨v, ls, A0, As, e, ho, hp, hl⟩ := h
 cases e
 obtain ⟨L, hL⟩ := hR
 obtain ⟨e1, e2⟩ := hl.len
 have hraw := raw_of (g.owrd hy)
 obtain ⟨hw, hlen, base', cap', e, h2⟩ := ho
 cases e
 rcases h2 with ⟨rfl, rfl, rfl⟩ | ⟨b', sp, h3, rfl, h4, h5⟩
 ·simp at e1; omega
 rw [hb] at h3; cases h3
 subst hoff
 have hset := flat_set (flRaw g.size g.pos) ls i.toNat ⟨l, hraw⟩ sp (by omega)
 refine .part ([[(b, Obj.cells ⟨ls.flatMap (flRaw g.size g.pos).enc ++ sp⟩ T)], As.flatten ++ (B ++ (Rr.flatten ++ L))]) ([[(b, Obj.cells ⟨(ls.set i.toNat ⟨l, hraw⟩).flatMap (flRaw g.size g.pos).enc ++ sp⟩ T)], As.flatten ++ (B ++ (Rr.flatten ++ L))])
  (([(b, Obj.cells ⟨(ls.set i.toNat ⟨l, hraw⟩).flatMap (flRaw g.size g.pos).enc ++ sp⟩ T)] ++ (As.set i.toNat B).flatten) :: Rr) ?_ ?_ ?_ (k _ ⟨_, ls.set i.toNat ⟨l, hraw⟩, [(b, Obj.cells ⟨(ls.set i.toNat ⟨l, hraw⟩).flatMap (flRaw g.size g.pos).enc ++ sp⟩ T)], As.set i.toNat B, rfl, ⟨fun _ _ => trivial, by simpa using hlen, some ⟨b, 0, none⟩, cap, by rw [hb, List.length_set], .inr ⟨b, sp, rfl, rfl, by simpa using h4, by simpa using h5⟩⟩, .refl _, hl.set hy i.toNat⟩)
 ·refine ⟨[], ?_⟩
  refine hL.trans ?_
  simp only [List.flatten_cons, List.flatten_nil, List.append_nil]
  have := hp.append_right (B ++ (Rr.flatten ++ L))
  simpa only [List.append_assoc] using this
 ·refine ⟨[], [As.flatten ++ (B ++ (Rr.flatten ++ L))], [], [], ⟨ls.flatMap (flRaw g.size g.pos).enc ++ sp⟩, T, rfl, ?_, ?_⟩
  ·show 0 + i.toNat * g.size + l.length ≤ (ls.flatMap (flRaw g.size g.pos).enc ++ sp).length
   rw [List.length_append, flat_length, hraw.1]
   have : (flRaw g.size g.pos).size = g.size := rfl
   rw [this]
   have := Nat.mul_le_mul_right g.size (show i.toNat + 1 ≤ ls.length by omega)
   rw [Nat.succ_mul] at this; omega
  simp only [List.nil_append, Nat.zero_add]
  have hset' : setAt (ls.flatMap (flRaw g.size g.pos).enc ++ sp) (i.toNat * g.size) l = (ls.set i.toNat ⟨l, hraw⟩).flatMap (flRaw g.size g.pos).enc ++ sp := hset
  rw [hset']
 have q1 := flat_lists As i.toNat (by omega)
 have q2 := flat_lists (As.set i.toNat B) i.toNat (by simpa using (by omega : i.toNat < As.length))
 simp only [List.getElem_set_self, List.set_set] at q2
 refine ⟨As[i.toNat]'(by omega) ++ L, ?_⟩
 refine perm_cnt fun a => ?_
 have c1 := q1.count_eq a
 have c2 := q2.count_eq a
 simp only [List.count_append] at c1 c2
 simp only [List.flatten_cons, List.flatten_nil, List.append_nil, List.count_append]
 omega
theorem sl_eq {b : Option Addr} {m m' c : Nat} (h : m = m') : Value.slice b m c = Value.slice b m' c := by rw [h]
theorem gmake {z : α} {lz : List Value} {b k c : Nat} (hz : g.ow lz z []) (hn : k ≤ c) (hc : c ≤ 281474976710656) : (gSl T g).ow [.slice (some ⟨b, 0, none⟩) k c] (List.replicate k z) [(b, Obj.cells ⟨zeros c lz⟩ T)] :=
 ⟨_, List.replicate k ⟨lz, raw_of (g.owrd hz)⟩, _, List.replicate k [], rfl, Ow.make (f := flRaw g.size g.pos) (z := ⟨lz, raw_of (g.owrd hz)⟩) trivial hn hc, by simp; rfl, OwL.rep hz k⟩
end
def gI : Gt Int := flInt.gt fun k => k
def gB : Gt Bool := flBool.gt fun k => k.tmod 3 == 0
def gY : Gt UInt8 := flByte.gt fun k => UInt8.ofNat (k % 256).toNat
theorem gI_ow {x : Int} (h : okI x) : gI.ow [.int .i64 x] x [] := ⟨rfl, h, rfl⟩
theorem gB_ow {x : Bool} (_ : True) : gB.ow [.bool x] x [] := ⟨rfl, trivial, rfl⟩
theorem gY_ow {x : UInt8} (_ : True) : gY.ow [.int .u8 x.toNat] x [] := ⟨rfl, trivial, rfl⟩
theorem wrap_of {x : Int} (h1 : -9223372036854775808 ≤ x) (h2 : x ≤ 9223372036854775807) : IntKind.i64.wrap x = x := wrap_ok ⟨h1, h2⟩
theorem okI_wrap (x : Int) : okI (IntKind.i64.wrap x) := by
 unfold okI IntKind.wrap
 simp only [IntKind.bits, IntKind.signed]
 simp only [Bool.true_and, decide_eq_true_eq, ge_iff_le]
 split <;> omega
end Go.SX
namespace Go.SX
theorem frI {p : Prop} (h : p := by repeat' (first | exact trivial | refine ⟨⟨_, rfl, by first | rfl | exact inc_eq _ (by omega) | (refine sl_eq ?_; simp; done), by first | exact trivial | simp [SV.ok]⟩, ?_⟩)) : p := h
theorem rlA {p : Prop} (h : p := by exact .le fun a => by (try simp only [setR, List.cons_append, List.nil_append]); simp only [List.flatten_append, List.flatten_cons, List.flatten_nil, List.count_append, List.count_nil, List.append_nil, List.nil_append]; omega) : p := h
theorem rlB {p : Prop} (h : p := by exact .le fun a => by (try simp only [setR, List.cons_append, List.nil_append]); simp [List.count_cons, Blk.ent, idOf]; try omega) : p := h
theorem woI {p : Prop} (h : p := by (try simp (disch := omega) only [wrap_of] at *); omega) : p := h
end Go.SX
namespace Go.SX
def CtR (P : Program) (f : FuncId) (args : List Value) (A0 : Hp) (pre : Hp → Prop) (post : Value → Hp → Prop) : Prop :=
 (∃ fn, P.funcs[f]? = some fn ∧ fn.name ≠ "runtime.NumGoroutine" ∧ fn.body.isSome = true) ∧
 ∀ E H w, Sat E (A0 ++ H) w → pre H → Calls P f ⟨args⟩ w fun e w' => ∃ v A, e = .returned v ∧ post v A ∧ Sat E (A ++ H) w'
def delBlk : List Blk → Nat → List Blk
 | [], _ => []
 | _ :: r, 0 => r
 | b :: r, i + 1 => b :: delBlk r i
theorem delBlk_perm : ∀ {bl : List Blk} {h : Nat} {b : Blk}, nthBlk bl h = some b → bl.Perm (b :: delBlk bl h)
 | [], _, _, e => by simp [nthBlk] at e
 | b :: r, 0, _, e => by cases e; exact .refl _
 | c :: r, i + 1, b, e => by
  have := delBlk_perm (bl := r) (h := i) (b := b) e
  exact (this.cons c).trans (.swap _ _ _)
theorem setBlk_perm : ∀ {bl bl' : List Blk} {h : Nat} {b : Blk} {cs : List Value}, nthBlk bl h = some b → setBlk bl h cs = some bl' → bl'.Perm (⟨b.id, cs, b.ty⟩ :: delBlk bl h) ∧ bl'.map Blk.id = bl.map Blk.id
 | [], _, _, _, _, e, _ => by simp [nthBlk] at e
 | b :: r, bl', 0, _, cs, e, e' => by
  cases e
  obtain ⟨i, c0, t⟩ := b
  simp only [setBlk, Option.some.injEq] at e'
  subst e'
  exact ⟨.refl _, rfl⟩
 | c :: r, bl', i + 1, b, cs, e, e' => by
  simp only [setBlk] at e'
  split at e'
  ·rename_i r' hr'
   cases e'
   obtain ⟨h1, h2⟩ := setBlk_perm (bl := r) (h := i) (b := b) e hr'
   exact ⟨(h1.cons c).trans (.swap _ _ _), by simp [h2]⟩
  cases e'
section
variable {P : Program} {E : World} {Γ : Ty}
theorem Ct.toR {f : FuncId} {args : List Value} {pre : Hp → Prop} {post : Value → Hp → Prop} (h : Ct P f args [] pre post) : CtR P f args [] pre post := h
theorem CtR.intro (hΓ : TyOk P Γ) {f : FuncId} {fn : Func} (L : List Hp) (hf : P.funcs[f]? = some fn) (hn : decide (fn.name = "runtime.NumGoroutine") = false) (hb : fn.body.isSome = true) {args : List Value} (ha : Nat.ble args.length fn.ntmps = true) {A0 : Hp} {pre : Hp → Prop} {post : Value → Hp → Prop}
  (hL : L.flatten = A0) (h : ∀ E H, pre H → exFn P E Γ fn args (L ++ [H]) fun v bl R => ∃ A, post v A ∧ RLe (bl.map Blk.ent :: R) [A, H]) : CtR P f args A0 pre post := by
 refine ⟨⟨fn, hf, of_decide_eq_false hn, hb⟩, fun E H w hs hp => ?_⟩
 refine (exFn_sound hΓ hf ha (h E H hp) (by simpa [hL] using hs)).mono ?_
 rintro e w' ⟨v, bl, R', h1, h2, A, h3, L, h4⟩
 refine ⟨v, A, h1, h3, ?_⟩
 have : (St.hall ⟨[], bl, R'⟩).Perm ((A ++ H) ++ L) := by simpa [St.hall] using h4
 exact (h2.perm this).drop
theorem CtR.introB (hΓ : TyOk P Γ) {f : FuncId} {fn : Func} (svs : List SV) (bl : List Blk) (L : List Hp) (hf : P.funcs[f]? = some fn) (hn : decide (fn.name = "runtime.NumGoroutine") = false) (hb : fn.body.isSome = true) {args : List Value} (ha : Nat.ble svs.length fn.ntmps = true)
  (hargs : svs.map (SV.den bl) = args) (hok : ∀ s ∈ svs, s.ok bl) {A0 : Hp} {pre : Hp → Prop} {post : Value → Hp → Prop}
  (hL : A0.Perm (bl.map Blk.ent ++ L.flatten)) (h : ∀ E H, pre H → exFnS P E Γ fn svs bl (L ++ [H]) fun v bl R => ∃ A, post v A ∧ RLe (bl.map Blk.ent :: R) [A, H]) : CtR P f args A0 pre post := by
 refine ⟨⟨fn, hf, of_decide_eq_false hn, hb⟩, fun E H w hs hp => ?_⟩
 subst hargs
 have hs' : Sat E (St.hall ⟨[], bl, L ++ [H]⟩) w := by
  refine hs.perm ?_
  have := hL.append_right H
  simpa [St.hall, List.append_assoc] using this
 refine (exFnS_sound hΓ hf ha hok (h E H hp) hs').mono ?_
 rintro e w' ⟨v, bl, R', h1, h2, A, h3, L, h4⟩
 refine ⟨v, A, h1, h3, ?_⟩
 have : (St.hall ⟨[], bl, R'⟩).Perm ((A ++ H) ++ L) := by simpa [St.hall] using h4
 exact (h2.perm this).drop
theorem sat_le {X : Hp} {R R' : List Hp} {w : World} (hs : Sat E (X ++ R.flatten) w) (h : RLe R R') : Sat E (X ++ R'.flatten) w := by
 obtain ⟨L, hL⟩ := h
 have : (X ++ R.flatten).Perm ((X ++ R'.flatten) ++ L) := by
  rw [List.append_assoc]; exact hL.append_left X
 exact (hs.perm this).drop
theorem callR_at (i : Nat) {f : FuncId} {args : List Value} {bl : List Blk} {R : List Hp} {A0 : Hp} {pre : Hp → Prop} {post : Value → Hp → Prop} {K : Value → List Blk → List Hp → Prop} (hi : nthR R i = some A0) (hc : CtR P f args A0 pre post)
  (hp : pre (St.hall ⟨[], bl, setR R i []⟩)) (hk : ∀ v A, post v A → K v bl (setR R i A)) : VCcall P E f args ⟨[], bl, R⟩ K := by
 obtain ⟨pr, po, e1, e2⟩ := nthR_split hi
 have perm : ∀ A : Hp, (St.hall ⟨[], bl, pr ++ A :: po⟩).Perm (A ++ St.hall ⟨[], bl, pr ++ [] :: po⟩) := by
  intro A
  simp only [St.hall, List.flatten_append, List.flatten_cons, List.nil_append]
  rw [← List.append_assoc, ← List.append_assoc, ← List.append_assoc, ← List.append_assoc]
  refine List.Perm.append_right _ ?_
  have := List.perm_append_comm (l₁ := List.map Blk.ent bl ++ pr.flatten) (l₂ := A)
  simpa only [List.append_assoc] using this
 rw [e2] at hp
 refine .intro hc.1 (fun w hs => (hc.2 E _ w ((e1 ▸ hs).perm (perm A0)) hp).mono ?_)
 rintro e w' ⟨v, A, h1, h2, h3⟩
 exact ⟨v, bl, _, h1, h3.perm (perm A).symm, rfl, by rw [← e2]; exact hk v A h2⟩
theorem callR_part {f : FuncId} {args : List Value} {bl : List Blk} {R : List Hp} (A0 : Hp) (R0 : List Hp) {pre : Hp → Prop} {post : Value → Hp → Prop} {K : Value → List Blk → List Hp → Prop} (hc : CtR P f args A0 pre post)
  (hR : RLe R (A0 :: R0)) (hp : pre (St.hall ⟨[], bl, R0⟩)) (hk : ∀ v A, post v A → ∃ L, A.Perm L.flatten ∧ K v bl (L ++ R0)) : VCcall P E f args ⟨[], bl, R⟩ K := by
 have perm : ∀ A : Hp, (bl.map Blk.ent ++ (A :: R0).flatten).Perm (A ++ St.hall ⟨[], bl, R0⟩) := by
  intro A
  simp only [St.hall, List.flatten_cons]
  rw [← List.append_assoc, ← List.append_assoc]
  exact List.perm_append_comm.append_right _
 refine .intro hc.1 (fun w hs => (hc.2 E _ w ((sat_le hs hR).perm (perm A0)) hp).mono ?_)
 rintro e w' ⟨v, A, h1, h2, h3⟩
 obtain ⟨L, h4, h5⟩ := hk v A h2
 refine ⟨v, bl, L ++ R0, h1, h3.perm ((perm A).symm.trans ?_), rfl, h5⟩
 simp only [St.hall, List.flatten_cons, List.flatten_append]
 exact (h4.append_right _).append_left _
theorem call_newP {f : FuncId} {args : List Value} {bl : List Blk} {R : List Hp} {pre : Hp → Prop} {post : Value → Hp → Prop} {K : Value → List Blk → List Hp → Prop} (hc : Ct P f args [] pre post)
  (hp : pre (St.hall ⟨[], bl, R⟩)) (hk : ∀ v A, post v A → ∃ L, A.Perm L.flatten ∧ K v bl (L ++ R)) : VCcall P E f args ⟨[], bl, R⟩ K :=
 callR_part [] R hc.toR (.refl _) hp hk
theorem callR_blk (h : Nat) {f : FuncId} {args : List Value} {bl : List Blk} {R : List Hp} (A1 : Hp) (R0 : List Hp) {b : Blk} {pre : Hp → Prop} {post : Value → Hp → Prop} {K : Value → List Blk → List Hp → Prop} (hb : nthBlk bl h = some b)
  (hR : RLe R (A1 :: R0)) (hc : CtR P f args ((b.id, Obj.cells ⟨b.cs⟩ b.ty) :: A1) pre post) (hp : pre (St.hall ⟨[], delBlk bl h, R0⟩))
  (hk : ∀ v A, post v A → ∃ cs' bl' L, setBlk bl h cs' = some bl' ∧ A.Perm ((b.id, Obj.cells ⟨cs'⟩ b.ty) :: L.flatten) ∧ K v bl' (L ++ R0)) : VCcall P E f args ⟨[], bl, R⟩ K := by
 have hbl := (delBlk_perm hb).map Blk.ent
 refine .intro hc.1 (fun w hs => (hc.2 E _ w ((sat_le hs hR).perm ?_) hp).mono ?_)
 ·refine (hbl.append_right _).trans ?_
  simp only [List.map_cons, St.hall, List.flatten_cons, List.cons_append]
  refine .cons _ ?_
  rw [← List.append_assoc, ← List.append_assoc]
  exact List.perm_append_comm.append_right _
 rintro e w' ⟨v, A, h1, h2, h3⟩
 obtain ⟨cs', bl', L, h4, h5, h6⟩ := hk v A h2
 obtain ⟨g1, g2⟩ := setBlk_perm hb h4
 refine ⟨v, bl', L ++ R0, h1, h3.perm ?_, g2, h6⟩
 have g3 := (g1.map Blk.ent).symm
 refine List.Perm.trans ?_ (g3.append_right _)
 refine (h5.append_right _).trans ?_
 simp only [List.map_cons, St.hall, List.flatten_append, List.cons_append, Blk.ent]
 refine .cons _ ?_
 rw [← List.append_assoc, ← List.append_assoc]
 exact List.perm_append_comm.append_right _
theorem draw_joinK {α : Type} {n id : Nat} {ops : Array Oper} {fr : Fr} {bl : List Blk} {R : List Hp} {K : St → Prop} (ws : List Nat) (mods : α → Fr) (bls : α → List Blk) (Rs : α → List Hp) (I : α → Prop)
  (h1 : VCdraw P E n id ops ⟨fr, bl, R⟩ (fun st' => ∃ z, I z ∧ Weak st' ⟨mods z ++ dropK ws fr, bls z, Rs z⟩)) (h2 : ∀ z, I z → K ⟨mods z ++ dropK ws fr, bls z, Rs z⟩) : VCdraw P E n id ops ⟨fr, bl, R⟩ K :=
 draw_join (fun z => ⟨mods z ++ dropK ws fr, bls z, Rs z⟩) I h1 h2
end
end Go.SX
namespace Go.SX
theorem svi_eq {a b : Int} (h : a = b) : Value.int .i64 a = Value.int .i64 b := by rw [h]
theorem u8_wrap (x : Int) : IntKind.u8.wrap x = x % 256 := by
 unfold IntKind.wrap
 simp [IntKind.bits, IntKind.signed]
theorem str_inj {a b : ByteArray} : a.toList = b.toList ↔ a = b := by
 constructor
 ·intro h
  rw [ByteArray.toList_eq, ByteArray.toList_eq] at h
  obtain ⟨⟨a⟩⟩ := a; obtain ⟨⟨b⟩⟩ := b
  cases h; rfl
 rintro rfl; rfl
theorem u8_inj {a b : UInt8} : ((a.toNat : Nat) : Int) = (b.toNat : Nat) ↔ a = b := by
 constructor
 ·intro h
  exact UInt8.toNat_inj.1 (by omega)
 rintro rfl; rfl
theorem setAt_len (l : List Value) : ∀ (cs : List Value) (o : Nat), (setAt cs o l).length = cs.length := by
 induction l with
 | nil => intro cs o; rfl
 | cons x r ih => intro cs o; rw [setAt, ih]; simp
theorem setAt_app_l (l1 l2 l : List Value) (d : Nat) (h : d + l.length ≤ l1.length) : setAt (l1 ++ l2) d l = setAt l1 d l ++ l2 := by
 rw [setAt_eq _ _ _ (by rw [List.length_append]; omega), setAt_eq _ _ _ h]
 rw [List.take_append_of_le_length (by omega), List.drop_append_of_le_length (by omega)]
 simp
theorem setAt_app_r (l1 l2 l : List Value) (d : Nat) (h : d + l.length ≤ l2.length) : setAt (l1 ++ l2) (l1.length + d) l = l1 ++ setAt l2 d l := by
 rw [setAt_eq _ _ _ (by rw [List.length_append]; omega), setAt_eq _ _ _ h]
 rw [List.take_append, List.drop_append, List.take_of_length_le (by omega), List.drop_eq_nil_of_le (by omega : l1.length ≤ l1.length + d + l.length)]
 rw [show l1.length + d - l1.length = d by omega, show l1.length + d + l.length - l1.length = d + l.length by omega]
 simp
theorem setAt_whole (l l' : List Value) (h : l'.length = l.length) : setAt l 0 l' = l' := by
 rw [setAt_eq _ _ _ (by omega)]
 simp [h]
theorem setAt_at {l l1 : List Value} (d d' s : Nat) (l' : List Value) (hl : l1 = (l.drop d).take s) (h1 : d + s ≤ l.length) (h2 : d' + l'.length ≤ s) : setAt l d (setAt l1 d' l') = setAt l (d + d') l' := by
 have e1 : l1.length = s := by rw [hl, List.length_take, List.length_drop]; omega
 have e0 : (setAt l1 d' l').length = s := by rw [setAt_len, e1]
 rw [setAt_eq _ _ _ (by rw [setAt_len]; omega), e0, setAt_eq _ _ _ (by omega), setAt_eq _ _ _ (by omega)]
 have a1 : l1.take d' = (l.drop d).take d' := by rw [hl, List.take_take, Nat.min_eq_left (by omega)]
 have a2 : l1.drop (d' + l'.length) ++ l.drop (d + s) = l.drop (d + d' + l'.length) := by
  rw [Nat.add_assoc d]
  generalize hk : d' + l'.length = k at *
  rw [← List.drop_drop, ← List.drop_drop, hl]
  have hm : (l.drop d).length = l.length - d := List.length_drop
  generalize l.drop d = m at *
  rw [← List.drop_append_of_le_length (by rw [List.length_take]; omega), List.take_append_drop]
 rw [a1]
 have e1' := e1
 have a3 : l.take d ++ (l.drop d).take d' = l.take (d + d') := by rw [List.take_add]
 rw [← a2, ← a3]
 simp only [List.append_assoc]
section
variable {α β γ : Type}
structure Fld (g : Gt α) (h : Gt β) (get : α → β) (upd : α → β → α) (d : Nat) : Prop where
 fit : d + h.size ≤ g.size
 rd : ∀ {H : Hp} {l : List Value} {x : α}, g.rd H l x → h.rd H ((l.drop d).take h.size) (get x)
 ow : ∀ {l : List Value} {x : α} {A : Hp}, g.ow l x A → ∃ Af Ar, A.Perm (Af ++ Ar) ∧ h.ow ((l.drop d).take h.size) (get x) Af ∧ ∀ l' y B, h.ow l' y B → g.ow (setAt l d l') (upd x y) (B ++ Ar)
theorem Fld.id (g : Gt α) : Fld g g (fun x => x) (fun _ y => y) 0 where
 fit := by omega
 rd h := by
  have e := g.len h
  rw [List.drop_zero, ← e, List.take_length]; exact h
 ow h := by
  have e := g.len (g.owrd h)
  refine ⟨_, [], by rw [List.append_nil], by rw [List.drop_zero, ← e, List.take_length]; exact h, fun l' y B hB => ?_⟩
  have e' := g.len (g.owrd hB)
  rw [setAt_whole _ _ (by omega), List.append_nil]; exact hB
theorem Fld.fst (g : Gt α) (h : Gt β) : Fld (gPair g h) g (fun x => x.1) (fun x y => (y, x.2)) 0 where
 fit := by show 0 + g.size ≤ g.size + h.size; omega
 rd := by
  rintro H l x ⟨l1, l2, rfl, h1, h2⟩
  have e := g.len h1
  rw [List.drop_zero, ← e, List.take_left]; exact h1
 ow := by
  rintro l x A ⟨l1, l2, A1, A2, rfl, hp, h1, h2⟩
  have e := g.len (g.owrd h1)
  refine ⟨A1, A2, hp, by rw [List.drop_zero, ← e, List.take_left]; exact h1, fun l' y B hB => ?_⟩
  have e' := g.len (g.owrd hB)
  rw [setAt_app_l _ _ _ _ (by omega), setAt_whole _ _ (by omega)]
  exact ⟨l', l2, B, A2, rfl, .refl _, hB, h2⟩
theorem Fld.snd (g : Gt α) (h : Gt β) : Fld (gPair g h) h (fun x => x.2) (fun x y => (x.1, y)) g.size where
 fit := by show g.size + h.size ≤ g.size + h.size; omega
 rd := by
  rintro H l x ⟨l1, l2, rfl, h1, h2⟩
  have e := g.len h1
  have e2 := h.len h2
  rw [← e, List.drop_left, ← e2, List.take_length]; exact h2
 ow := by
  rintro l x A ⟨l1, l2, A1, A2, rfl, hp, h1, h2⟩
  have e := g.len (g.owrd h1)
  have e2 := h.len (h.owrd h2)
  refine ⟨A2, A1, hp.trans List.perm_append_comm, by rw [← e, List.drop_left, ← e2, List.take_length]; exact h2, fun l' y B hB => ?_⟩
  have e' := h.len (h.owrd hB)
  have := setAt_app_r l1 l2 l' 0 (by omega)
  rw [Nat.add_zero, e] at this
  rw [this, setAt_whole _ _ (by omega)]
  exact ⟨l1, l', A1, B, rfl, List.perm_append_comm, h1, hB⟩
theorem Fld.iso {g : Gt α} {h : Gt β} {get : α → β} {upd : α → β → α} {d : Nat} {f : γ → α} {f' : α → γ} (F : Fld g h get upd d) {get' : γ → β} {upd' : γ → β → γ} (hg : ∀ x, get' x = get (f x)) (hu : ∀ x y, f (upd' x y) = upd (f x) y) : Fld (gIso g f f') h get' upd' d where
 fit := F.fit
 rd hh := by rw [hg]; exact F.rd hh
 ow hh := by
  obtain ⟨Af, Ar, h1, h2, h3⟩ := F.ow hh
  refine ⟨Af, Ar, h1, by rw [hg]; exact h2, fun l' y B hB => ?_⟩
  show g.ow _ (f _) _
  rw [hu]; exact h3 l' y B hB
theorem Fld.comp {g : Gt α} {h : Gt β} {k : Gt γ} {get : α → β} {upd : α → β → α} {d : Nat} {get' : β → γ} {upd' : β → γ → β} {d' : Nat} (F : Fld g h get upd d) (G : Fld h k get' upd' d') : Fld g k (fun x => get' (get x)) (fun x y => upd x (upd' (get x) y)) (d + d') where
 fit := by have := F.fit; have := G.fit; omega
 rd {H l x} hh := by
  have := G.rd (F.rd hh)
  have hf := G.fit
  rw [List.drop_take, List.take_take, Nat.min_eq_left (by omega), List.drop_drop] at this
  exact this
 ow {l x A} hh := by
  have hf := G.fit
  have hf2 := F.fit
  have el := g.len (g.owrd hh)
  obtain ⟨Af, Ar, h1, h2, h3⟩ := F.ow hh
  obtain ⟨Bf, Br, k1, k2, k3⟩ := G.ow h2
  refine ⟨Bf, Br ++ Ar, ?_, ?_, fun l' y B hB => ?_⟩
  ·refine h1.trans ?_
   rw [← List.append_assoc]; exact k1.append_right _
  ·rw [List.drop_take, List.take_take, Nat.min_eq_left (by omega), List.drop_drop] at k2
   exact k2
  have e' := k.len (k.owrd hB)
  have := h3 _ _ _ (k3 l' y B hB)
  rw [setAt_at (l := l) d d' h.size l' rfl (by omega) (by omega)] at this
  rw [← List.append_assoc]; exact this
def Foc (h : Gt β) (l : List Value) (y : β) (A : Hp) (back : β → Hp → Prop) : Prop :=
 ∃ Af Ar, A.Perm (Af ++ Ar) ∧ h.ow l y Af ∧ ∀ y' B A', h.ow l y' B → A'.Perm (B ++ Ar) → back y' A'
theorem setAt_self (l : List Value) (d s : Nat) (h : d + s ≤ l.length) : setAt l d ((l.drop d).take s) = l := by
 rw [setAt_eq _ _ _ (by rw [List.length_take, List.length_drop]; omega)]
 rw [List.length_take, List.length_drop, Nat.min_eq_left (by omega), ← List.drop_drop, List.append_assoc, List.take_append_drop, List.take_append_drop]
theorem Fld.foc {g : Gt α} {h : Gt β} {get : α → β} {upd : α → β → α} {d : Nat} (F : Fld g h get upd d) {l : List Value} {x : α} {A : Hp} (ho : g.ow l x A) : Foc h ((l.drop d).take h.size) (get x) A (fun y A' => g.ow l (upd x y) A') := by
 obtain ⟨Af, Ar, h1, h2, h3⟩ := F.ow ho
 refine ⟨Af, Ar, h1, h2, fun y' B A' hB hp => g.owp ?_ hp⟩
 have := h3 _ _ _ hB
 rwa [setAt_self _ _ _ (by have := F.fit; have := g.len (g.owrd ho); omega)] at this
variable {P : Program} {E : World} {Γ : Ty} {n : Nat} {g : Gt α} {T : TypeId}
theorem gfoc {h : Gt β} {get : α → β} {upd : α → β → α} {d : Nat} (F : Fld g h get upd d) {base : Option Addr} {m cap : Nat} {xs : List α} {A : Hp} (ho : (gSl T g).ow [.slice base m cap] xs A) (z : α) (i : Nat) (hi : i < xs.length) :
  ∃ b o lx, base = some ⟨b, o, none⟩ ∧ g.rd A lx (xs[i]?.getD z) ∧ RdCells A b (o + i * g.size) g.size lx ∧ Foc h ((lx.drop d).take h.size) (get (xs[i]?.getD z)) A (fun y A' => (gSl T g).ow [.slice base m cap] (xs.set i (upd (xs[i]?.getD z) y)) A') := by
 obtain ⟨lx, Ax, rest, b, o, hb, hp, hx, hr, hc⟩ := gopen ho i hi
 rw [List.getElem?_eq_getElem hi, Option.getD_some]
 refine ⟨b, o, lx, hb, g.mono (fun p h' => hp.mem_iff.2 (List.mem_append_left _ h')) (g.owrd hx), hr.mono fun p h' => hp.mem_iff.2 (List.mem_append_right _ h'), ?_⟩
 obtain ⟨Af, Ar, h1, h2, h3⟩ := F.foc hx
 refine ⟨Af, Ar ++ rest, ?_, h2, fun y' B A' hB hA' => ?_⟩
 ·refine hp.trans ?_
  rw [← List.append_assoc]; exact h1.append_right _
 refine hc _ (B ++ Ar) A' (h3 y' B (B ++ Ar) hB (.refl _)) ?_
 rw [List.append_assoc]; exact hA'
theorem load_foc {h : Gt β} {get : α → β} {upd : α → β → α} {d : Nat} (F : Fld g h get upd d) (z : α) {H' A : Hp} {base : Option Addr} {m cap : Nat} {xs : List α} {i : Int} {b o off : Nat} {G : List Value → Prop}
  (ho : (gSl T g).ow [.slice base m cap] xs A) (h0 : 0 ≤ i) (h1 : i < xs.length) (hb : base = some ⟨b, o, none⟩) (hoff : off = o + i.toNat * g.size + d) (sub : ∀ p ∈ A, p ∈ H')
  (k : ∀ l, h.rd A l (get (xs[i.toNat]?.getD z)) → Foc h l (get (xs[i.toNat]?.getD z)) A (fun y A' => (gSl T g).ow [.slice base m cap] (xs.set i.toNat (upd (xs[i.toNat]?.getD z) y)) A') → G l) : VCload H' b off h.size G := by
 obtain ⟨b', o', lx, hb', hrd, hr, hf⟩ := gfoc F ho z i.toNat (by omega)
 rw [hb] at hb'; cases hb'
 have hfit := F.fit
 have el := g.len hrd
 refine .intro ((lx.drop d).take h.size) ?_ (k _ (F.rd hrd) hf)
 obtain ⟨g1, cs, T', fz, g2, g3⟩ := hr
 refine ⟨by rw [List.length_take, List.length_drop]; omega, cs, T', fz, sub _ g2, fun j hj => ?_⟩
 have := g3 (d + j) (by omega)
 rw [hoff, Nat.add_assoc (o + i.toNat * g.size) d j, this, List.getElem?_take, if_pos hj, List.getElem?_drop]
open Classical in
theorem call_foc (i : Nat) {h : Gt β} {l : List Value} {y y' : β} {A : Hp} {back : β → Hp → Prop} {Q : Value → Prop} {f : FuncId} {args : List Value} {bl : List Blk} {R : List Hp} {pre : Hp → Prop} {K : Value → List Blk → List Hp → Prop} (hi : nthR R i = some A)
  (hf : Foc h l y A back) (hc : ∀ Af, h.ow l y Af → CtR P f args Af pre (fun v A' => Q v ∧ h.ow l y' A')) (hp : ∀ H, (∀ p ∈ St.hall ⟨[], bl, setR R i []⟩, p ∈ H) → pre H)
  (hk : ∀ v A', Q v → back y' A' → K v bl (setR R i A')) : VCcall P E f args ⟨[], bl, R⟩ K := by
 obtain ⟨Af, Ar, h1, h2, h3⟩ := hf
 obtain ⟨pr, po, e1, e2⟩ := nthR_split hi
 have perm : ∀ A B C : Hp, A.Perm (B ++ C) → (St.hall ⟨[], bl, pr ++ A :: po⟩).Perm (B ++ (C ++ St.hall ⟨[], bl, pr ++ [] :: po⟩)) := by
  intro A B C hAB
  refine perm_cnt fun a => ?_
  have := hAB.count_eq a
  simp only [St.hall, List.flatten_append, List.flatten_cons, List.count_append, List.nil_append] at *
  omega
 have hc' := hc Af h2
 refine .intro hc'.1 (fun w hs => (hc'.2 E (Ar ++ St.hall ⟨[], bl, pr ++ [] :: po⟩) w ?_ (hp _ fun p hp' => List.mem_append_right _ (by rw [e2] at hp'; exact hp'))).mono ?_)
 ·exact (e1 ▸ hs).perm (perm A Af Ar h1)
 rintro e w' ⟨v, A', k1, ⟨k2, k3⟩, k4⟩
 refine ⟨v, bl, setR R i (A' ++ Ar), k1, ?_, rfl, hk v _ k2 (h3 y' A' _ k3 (.refl _))⟩
 rw [e2]
 exact k4.perm (perm (A' ++ Ar) A' Ar (.refl _)).symm
theorem call_q {Q : Value → Prop} {f : FuncId} {args : List Value} {bl : List Blk} {R : List Hp} {pre : Hp → Prop} {K : Value → List Blk → List Hp → Prop} (hc : Ct P f args [] pre (fun v A => Q v ∧ A = []))
  (hp : pre (St.hall ⟨[], bl, R⟩)) (hk : ∀ v, Q v → K v bl R) : VCcall P E f args ⟨[], bl, R⟩ K := by
 refine call_newP hc hp ?_
 rintro v A ⟨h, rfl⟩
 exact ⟨[], by simp, hk v h⟩
theorem Fld.st {h : Gt β} {get : α → β} {upd : α → β → α} {d : Nat} (F : Fld g h get upd d) {x : α} {v : β} {l : List Value} (hpl : ∀ l y A, h.ow l y A → A = []) (ho : h.ow l v []) :
  ∀ lx Ax, g.ow lx x Ax → d + l.length ≤ g.size ∧ ∃ Ay, g.ow (setAt lx d l) (upd x v) Ay ∧ Ax.Perm Ay := by
 intro lx Ax hx
 have e := h.len (h.owrd ho)
 obtain ⟨Af, Ar, h1, h2, h3⟩ := F.ow hx
 have := hpl _ _ _ h2
 subst this
 exact ⟨by rw [e]; exact F.fit, _, h3 l v [] ho, h1⟩
theorem gstoreN {h : Gt β} {get : α → β} {upd : α → β → α} {d : Nat} (F : Fld g h get upd d) (z : α) (k : Nat) {R : List Hp} {A : Hp} {base : Option Addr} {m cap : Nat} {xs : List α} {i : Int} {b o off : Nat} {l : List Value} {G : List Hp → Prop} (j : Nat) (hj : nthR R j = some A) (hk : i = (k : Int)) (ho : (gSl T g).ow [.slice base m cap] xs A)
  (h0 : 0 ≤ i) (h1 : i < xs.length) (hb : base = some ⟨b, o, none⟩) (hoff : off = o + i.toNat * g.size + d) (hpl : ∀ l y A, h.ow l y A → A = []) (y : β) (hy : h.ow l y [])
  (c : ∀ A', (gSl T g).ow [.slice base m cap] (xs.set k (upd (xs[k]?.getD z) y)) A' → G (setR R j A')) : VCstore R b off l G := by
 subst hk
 refine gstore j hj ho h0 h1 hb d hoff (upd (xs[k]?.getD z) y) ?_ fun A' _ o => c A' (by simpa using o)
 have : xs[(k : Int).toNat]'(by omega) = xs[k]?.getD z := by
  have hlt : k < xs.length := by omega
  simp [List.getElem?_eq_getElem hlt]
 rw [this]
 exact F.st hpl hy
theorem gstore1N (k : Nat) {R : List Hp} (A B : Hp) (Rr : List Hp) {base : Option Addr} {m cap : Nat} {xs : List α} {i : Int} {b o off : Nat} {l : List Value} {G : List Hp → Prop} (hR : RLe R (A :: B :: Rr)) (hk : i = (k : Int)) (h : (gSl T g).ow [.slice base m cap] xs A)
  (h0 : 0 ≤ i) (h1 : i < xs.length) (hb : base = some ⟨b, o, none⟩) (hoff : off = o + i.toNat * g.size) (y : α) (hy : g.ow l y B)
  (c : ∀ A', (gSl T g).ow [.slice base m cap] (xs.set k y) A' → G (A' :: Rr)) : VCstore R b off l G := by
 subst hk
 exact gstore1 A B Rr hR h h0 h1 hb hoff y hy fun A' o => c A' (by simpa using o)
theorem CtR.introP (hΓ : TyOk P Γ) {f : FuncId} {fn : Func} (L : List Hp) (hf : P.funcs[f]? = some fn) (hn : decide (fn.name = "runtime.NumGoroutine") = false) (hb : fn.body.isSome = true) {args : List Value} (ha : Nat.ble args.length fn.ntmps = true) {A0 : Hp} {pre : Hp → Prop} {post : Value → Hp → Prop}
  (hL : A0.Perm L.flatten) (h : ∀ E H, pre H → exFn P E Γ fn args (L ++ [H]) fun v bl R => ∃ A, post v A ∧ RLe (bl.map Blk.ent :: R) [A, H]) : CtR P f args A0 pre post := by
 have := CtR.intro (A0 := L.flatten) (post := post) hΓ L hf hn hb ha rfl h
 refine ⟨this.1, fun E H w hs hp => this.2 E H w (hs.perm (hL.append_right H)) hp⟩
def OwE (T : TypeId) (g : Gt α) (base : Option Addr) (m cap : Nat) (xs : List α) (k : Nat) (x : α) (A : Hp) : Prop :=
 k < xs.length ∧ (gSl T g).ow [.slice base m cap] (xs.set k x) A
theorem OwE.mk {base : Option Addr} {m cap : Nat} {xs : List α} {A : Hp} (z : α) (k : Nat) (h : (gSl T g).ow [.slice base m cap] xs A) (hk : k < xs.length) :
  ∃ x, x = xs[k]?.getD z ∧ OwE T g base m cap xs k x A := by
 refine ⟨_, rfl, hk, ?_⟩
 have : xs.set k (xs[k]?.getD z) = xs := by
  rw [List.getElem?_eq_getElem hk, Option.getD_some, List.set_getElem_self]
 rw [this]; exact h
theorem oe_idx {base : Option Addr} {m cap : Nat} {xs : List α} {A : Hp} {k : Nat} {x : α} {i : Int} {F : Nat → Nat → Prop} (h : OwE T g base m cap xs k x A) (hk : i = (k : Int)) (c : ∀ b o, base = some ⟨b, o, none⟩ → F b o) : VCidx base m i F := by
 obtain ⟨h1, h2⟩ := h
 subst hk
 exact idx_rd ((gSl T g).owrd h2) (by omega) (by rw [List.length_set]; omega) c
theorem oe_load {h : Gt β} {get : α → β} {upd : α → β → α} {d : Nat} (F : Fld g h get upd d) {H' A : Hp} {base : Option Addr} {m cap : Nat} {xs : List α} {k : Nat} {x : α} {i : Int} {b o off : Nat} {G : List Value → Prop} (ho : OwE T g base m cap xs k x A) (hk : i = (k : Int))
  (hb : base = some ⟨b, o, none⟩) (hoff : off = o + i.toNat * g.size + d) (sub : ∀ p ∈ A, p ∈ H')
  (c : ∀ l, h.rd A l (get x) → Foc h l (get x) A (fun y A' => ∃ x', x' = upd x y ∧ OwE T g base m cap xs k x' A') → G l) : VCload H' b off h.size G := by
 obtain ⟨h1, h2⟩ := ho
 subst hk
 have e : ∀ y : α, (xs.set k y)[(k : Int).toNat]?.getD x = y := fun y => by simp [h1]
 refine load_foc F x h2 (by omega) (by rw [List.length_set]; omega) hb hoff sub fun l hl hf => ?_
 rw [e] at hl hf
 refine c l hl ?_
 obtain ⟨Af, Ar, k1, k2, k3⟩ := hf
 refine ⟨Af, Ar, k1, k2, fun y' B A' hB hp => ⟨_, rfl, h1, ?_⟩⟩
 have := k3 y' B A' hB hp
 simp only [Int.toNat_natCast, List.set_set] at this
 exact this
theorem oe_store {h : Gt β} {get : α → β} {upd : α → β → α} {d : Nat} (F : Fld g h get upd d) {R : List Hp} {A : Hp} {base : Option Addr} {m cap : Nat} {xs : List α} {k : Nat} {x : α} {i : Int} {b o off : Nat} {l : List Value} {G : List Hp → Prop} (j : Nat) (hj : nthR R j = some A) (ho : OwE T g base m cap xs k x A) (hk : i = (k : Int))
  (hb : base = some ⟨b, o, none⟩) (hoff : off = o + i.toNat * g.size + d) (hpl : ∀ l y A, h.ow l y A → A = []) (y : β) (hy : h.ow l y [])
  (c : ∀ x' A', x' = upd x y → OwE T g base m cap xs k x' A' → G (setR R j A')) : VCstore R b off l G := by
 obtain ⟨h1, h2⟩ := ho
 have e : ∀ y : α, (xs.set k y)[k]?.getD x = y := fun y => by simp [h1]
 refine gstoreN F x k j hj hk h2 (by omega) (by rw [List.length_set]; omega) hb hoff hpl y hy fun A' o => c _ A' rfl ⟨h1, ?_⟩
 rw [List.set_set, e] at o
 exact o
theorem OwE.done {base : Option Addr} {m cap : Nat} {xs : List α} {A : Hp} {k : Nat} {x : α} {ys : List α} (h : OwE T g base m cap xs k x A) (e : xs.set k x = ys) : (gSl T g).ow [.slice base m cap] ys A := e ▸ h.2
theorem loop_stepA {ε : Type} {st' : St} {I : ε → Prop} {μ : ε → Nat} {J : ε → St} {m0 : Nat} (x : ε) (h3 : RLe st'.R (J x).R) (h1 : FrLe st'.bl (J x).bl st'.fr (J x).fr) (h2 : BlLe st'.bl (J x).bl) (h4 : I x) (h5 : μ x < m0) :
  ∃ x', I x' ∧ μ x' < m0 ∧ Weak st' (J x') := ⟨x, h4, h5, h1, h2, h3⟩
theorem join_stepA {ε : Type} {st' : St} {I : ε → Prop} {J : ε → St} (x : ε) (h3 : RLe st'.R (J x).R) (h1 : FrLe st'.bl (J x).bl st'.fr (J x).fr) (h2 : BlLe st'.bl (J x).bl) (h4 : I x) :
  ∃ x', I x' ∧ Weak st' (J x') := ⟨x, h4, h1, h2, h3⟩
theorem keep_sub {fr fr' : Fr} {bl bl' : List Blk} {R R' : List Hp} (h1 : ∀ b ∈ bl, b ∈ bl') (h2 : ∀ A ∈ R, A ∈ R') : ∀ p ∈ St.hall ⟨fr, bl, R⟩, p ∈ St.hall ⟨fr', bl', R'⟩ := by
 intro p hp
 simp only [St.hall, List.mem_append, List.mem_map, List.mem_flatten] at hp ⊢
 rcases hp with ⟨b, hb, rfl⟩ | ⟨A, hA, hp⟩
 ·exact .inl ⟨b, h1 b hb, rfl⟩
 exact .inr ⟨A, h2 A hA, hp⟩
theorem gI_pl : ∀ l y A, gI.ow l y A → A = [] := fun _ _ _ h => h.2.2
theorem gB_pl : ∀ l y A, gB.ow l y A → A = [] := fun _ _ _ h => h.2.2
theorem fl_pl {f : Fl α} {mk : Int → α} {sz : α → Nat} : ∀ l y A, (f.gt mk sz).ow l y A → A = [] := fun _ _ _ h => h.2.2
theorem mkL_get (g : Gt α) (z : α) (xs : List α) (k0 : Int) (i : Nat) (h : i < xs.length) : (mkL g k0 xs)[i]?.getD z = g.mark (k0 + cntL g (xs.take i)) (xs[i]?.getD z) := by
 have e : xs = xs.take i ++ xs[i] :: xs.drop (i + 1) := by
  rw [← List.drop_eq_getElem_cons h, List.take_append_drop]
 have e1 : (mkL g k0 (xs.take i)).length = i := by rw [mkL_len, List.length_take]; omega
 conv => lhs; rw [e, mkL_append]
 rw [List.getElem?_append_right (by omega), e1, Nat.sub_self, List.getElem?_eq_getElem h, Option.getD_some]
 simp [mkL]
theorem mk_step (g : Gt α) (z : α) (xs : List α) (k0 : Int) (i : Nat) (h : i < xs.length) :
  (mkL g k0 (xs.take i) ++ xs.drop i).set i (g.mark (k0 + cntL g (xs.take i)) (xs[i]?.getD z)) = mkL g k0 (xs.take (i + 1)) ++ xs.drop (i + 1) := by
 have e : (mkL g k0 (xs.take i)).length = i := by rw [mkL_len, List.length_take]; omega
 rw [List.set_append_right _ _ (by omega), e, Nat.sub_self, List.drop_eq_getElem_cons h, List.set_cons_zero, List.getElem?_eq_getElem h, Option.getD_some, ← List.take_append_getElem h, mkL_append]
 simp [mkL]
theorem mk_get (g : Gt α) (z : α) (xs : List α) (k0 : Int) (i : Nat) (h : i < xs.length) : (mkL g k0 (xs.take i) ++ xs.drop i)[i]?.getD z = xs[i]?.getD z := by
 have e : (mkL g k0 (xs.take i)).length = i := by rw [mkL_len, List.length_take]; omega
 rw [List.getElem?_append_right (by omega), e, Nat.sub_self, List.getElem?_drop, Nat.add_zero]
theorem mk_len (g : Gt α) (xs : List α) (k0 : Int) (i : Nat) (h : i ≤ xs.length) : (mkL g k0 (xs.take i) ++ xs.drop i).length = xs.length := by
 rw [List.length_append, mkL_len, List.length_take, List.length_drop]; omega
theorem cntL_step (g : Gt α) (xs : List α) (k : Nat) (z : α) (h : k < xs.length) : cntL g (xs.take (k + 1)) = cntL g (xs.take k) + g.cnt (xs[k]?.getD z) := by
 rw [← List.take_append_getElem h, cntL_append, List.getElem?_eq_getElem h]; rfl
theorem cntL_take_le (g : Gt α) (xs : List α) (k : Nat) : cntL g (xs.take k) ≤ cntL g xs := by
 conv => rhs; rw [← List.take_append_drop k xs]
 rw [cntL_append]; omega
end
end Go.SX
namespace Go.SX
theorem strOfNums_u8 (xs : List UInt8) : strOfNums (xs.map fun x => (x.toNat : Int)) = ⟨xs.toArray⟩ := by
 unfold strOfNums
 congr 2
 rw [List.map_map]
 conv => rhs; rw [← List.map_id xs]
 apply List.map_congr_left
 intro x _
 simp
section
variable {P : Program} {E : World} {Γ : Ty} {n : Nat}
theorem conv_bs (hΓ : TyOk P Γ) (xs : List UInt8) {dst : Option Nat} {x : Operand} {t u e ty : TypeId} {pos : String} {after : Array Edge} {guard : Option (Nat × Bool)} {fr : Fr} {bl : List Blk} {R : List Hp} {K : St → Prop}
  {base : Option Addr} {m cap : Nat} (hx1 : getK fr x fun sv => sv = .v (.slice base m cap)) (hr : (rpSl flByte.rp).rd (St.hall ⟨[], bl, R⟩) [.slice base m cap] xs)
  (ht : undOf Γ t = some (.slice e)) (he : undOf Γ e = some (.int .u8)) (hu : undOf Γ u = some .string)
  (hk : putK n fr dst (.v (.string ⟨xs.toArray⟩)) fun fr => K ⟨fr, bl, R⟩) : VCraw P E n ⟨dst, .convert t u x, ty, pos, after, guard⟩ ⟨fr, bl, R⟩ K := by
 refine ⟨fun a w hrel Q => ?_⟩
 obtain ⟨sv, g1, _, rfl⟩ := getK_sound hrel hx1
 refine wp_value (s := .v _) (v := .string ⟨xs.toArray⟩) ?_ hrel rfl trivial hk
 have key : (convert t u (.slice base m cap)).run P w = .ok (.string ⟨xs.toArray⟩) w := by
  obtain ⟨base', cap', e1, h1, h2⟩ := hr
  cases e1
  have ht' := undOf_ok hΓ ht
  have he' := undOf_ok hΓ he
  have hu' := undOf_ok hΓ hu
  cases xs with
  | nil =>
   rw [run_convert_bytes_string w t u e _ _ _ ht' he' hu']
   cases base with
   | none => rfl
   | some a => exact run_bytesToString w a 0 cap [] rfl
  | cons x0 r =>
   obtain ⟨b, o, l', hb, hc, _⟩ := h2 0 (by simp)
   subst hb
   rw [← strOfNums_u8]
   refine run_convert_bytes_arg w t e ht' he' b o (x0 :: r).length cap ((x0 :: r).map fun x => (x.toNat : Int)) (by simp) (fun i hi => ?_) u hu'
   obtain ⟨b2, o2, l2, hb2, hc2, hl2, _⟩ := h2 i hi
   cases hb2
   obtain ⟨_, cs, T, fz, k1, k2⟩ := hc2
   have k3 := k2 0 (by show 0 < 1; omega)
   rw [hrel.sat.cell k1]
   have e2 : flByte.rp.size = 1 := rfl
   rw [e2, Nat.mul_one, Nat.add_zero] at k3
   rw [k3, hl2, List.getD_eq_getElem?_getD, List.getElem?_map, List.getElem?_eq_getElem hi]
   rfl
 simp only [execOp, g1, SV.den, Sem.run_bind, key, Sem.run_pure, Result.andThen_ok]
theorem bsz (l : List UInt8) : (⟨l.toArray⟩ : ByteArray).size = l.length := by simp [ByteArray.size]
def inU8 : List Int → Prop
 | [] => True
 | v :: r => (0 ≤ v ∧ v < 256) ∧ inU8 r
theorem lit_bs (vs : List Int) {b : Nat} {e : TypeId} {H : Hp} {cs : List Value} (hm : (b, Obj.cells ⟨cs⟩ e) ∈ H) (hc : cs = vs.map fun v => Value.int .u8 v) (h : inU8 vs) (hl : vs.length ≤ 9223372036854775807) : (rpSl flByte.rp).rd H [.slice (some ⟨b, 0, none⟩) vs.length vs.length] (vs.map fun v => UInt8.ofNat v.toNat) := by
 subst hc
 refine ⟨some ⟨b, 0, none⟩, vs.length, by simp, by simpa using hl, fun i hi => ?_⟩
 have hi' : i < vs.length := by simpa using hi
 refine ⟨b, 0, [.int .u8 vs[i]], rfl, ⟨rfl, _, _, _, hm, fun j hj => ?_⟩, ?_, trivial⟩
 ·have : j = 0 := by have : j < 1 := hj; omega
  subst this
  have e2 : flByte.rp.size = 1 := rfl
  simp [e2, hi']
 have key : ∀ (vs : List Int) (i : Nat) (hi : i < vs.length), inU8 vs → 0 ≤ vs[i] ∧ vs[i] < 256 := by
  intro vs
  induction vs with
  | nil => intro i hi; simp at hi
  | cons v r ih =>
   intro i hi h
   cases i with
   | zero => exact h.1
   | succ i => exact ih i (by simpa using hi) h.2
 have := key vs i hi' h
 show [Value.int .u8 vs[i]] = [.int .u8 ((vs.map fun v => UInt8.ofNat v.toNat)[i]).toNat]
 rw [List.getElem_map]
 simp; omega
end
end Go.SX
namespace Go.Proofs.YtjgehblllhkdbaaGreat
open Go.SX Go.Proofs
open Tryz
section
theorem mixed : prog.follows .mixedOrders = true := by kernel_rfl
theorem rd_len {α : Type} {r : Rp α} {H : Hp} {base : Option Addr} {m cap : Nat} {xs : List α} (h : (rpSl r).rd H [.slice base m cap] xs) : m = xs.length ∧ xs.length ≤ 9223372036854775807 := by
 obtain ⟨_, _, e, h1, _⟩ := h; cases e; exact ⟨rfl, h1.2⟩
theorem rd_cap {α : Type} {r : Rp α} {H : Hp} {base : Option Addr} {m cap : Nat} {xs : List α} (h : (rpSl r).rd H [.slice base m cap] xs) : xs.length ≤ cap := by
 obtain ⟨_, _, e, h1, _⟩ := h; cases e; exact h1.1
theorem take_step {α : Type} (xs : List α) (k : Nat) (z : α) (h : k < xs.length) : (xs.take k ++ List.replicate (xs.length - k) z).set k (xs[k]?.getD z) = xs.take (k + 1) ++ List.replicate (xs.length - (k + 1)) z := by
 rw [List.getElem?_eq_getElem h, Option.getD_some]
 obtain ⟨j, hj⟩ : ∃ j, xs.length - k = j + 1 := ⟨xs.length - k - 1, by omega⟩
 rw [List.set_append_right _ _ (by rw [List.length_take]; omega), hj, show xs.length - (k + 1) = j by omega, List.length_take, show k - min k xs.length = 0 by omega, List.replicate_succ, List.set_cons_zero, ← List.take_append_getElem h, List.append_assoc, List.singleton_append]
theorem take_stepz {α : Type} (xs : List α) (k : Nat) (z z' : α) (h : k < xs.length) : (xs.take k ++ List.replicate (xs.length - k) z').set k (xs[k]?.getD z) = xs.take (k + 1) ++ List.replicate (xs.length - (k + 1)) z' := by
 rw [← take_step xs k z' h, List.getElem?_eq_getElem h, Option.getD_some, Option.getD_some]
theorem eq_step {α : Type} {xs ys : List α} {k : Nat} (z : α) (h : xs.length = ys.length) (he : xs.take k = ys.take k) (hk : k < xs.length) (e : xs[k]?.getD z = ys[k]?.getD z) : xs.take (k + 1) = ys.take (k + 1) := by
 rw [List.getElem?_eq_getElem hk, List.getElem?_eq_getElem (by omega)] at e
 rw [← List.take_append_getElem hk, ← List.take_append_getElem (by omega : k < ys.length), he]
 have e' : xs[k] = ys[k]'(by omega) := e
 rw [e']
def dgs : Nat → Nat → ByteArray → ByteArray
 | 0, _, out => out
 | f + 1, k, out => if k = 0 then out else dgs f (k / 10) (⟨#[UInt8.ofNat (48 + k % 10)]⟩ ++ out)
def mtx (k : Int) : ByteArray := if k ≤ 0 then ⟨#[109, 48]⟩ else ⟨#[109]⟩ ++ dgs 20 k.toNat .empty
def gS : Gt ByteArray := flStr.gt mtx fun s => s.size
theorem gS_ow {x : ByteArray} (h : x.size ≤ 9223372036854775807) : gS.ow [.string x] x [] := ⟨rfl, h, rfl⟩
theorem gY_owM (k : Int) : gY.ow [.int .u8 (IntKind.u8.wrap k)] (UInt8.ofNat (k % 256).toNat) [] := by
 refine ⟨?_, trivial, rfl⟩
 show [Value.int .u8 _] = [Value.int .u8 _]
 have : IntKind.u8.wrap k = ((UInt8.ofNat (k % 256).toNat).toNat : Int) := by
  unfold IntKind.wrap
  simp only [IntKind.bits, IntKind.signed]
  simp
  omega
 rw [this]
section
variable {α : Type}
def szE (g : Gt α) : List α → Nat
 | [] => 0
 | x :: r => g.sz x + szE g r
theorem szL_eq (g : Gt α) : ∀ xs, szL g xs = xs.length + szE g xs
 | [] => rfl
 | x :: r => by rw [szL, szE, szL_eq g r, List.length_cons]; omega
theorem szE_app (g : Gt α) : ∀ xs ys, szE g (xs ++ ys) = szE g xs + szE g ys
 | [], ys => by simp [szE]
 | x :: r, ys => by simp [szE, szE_app g r]; omega
theorem szE_step (g : Gt α) (xs : List α) (k : Nat) (z : α) (h : k < xs.length) : szE g (xs.take (k + 1)) = szE g (xs.take k) + g.sz (xs[k]?.getD z) := by
 rw [← List.take_append_getElem h, szE_app, List.getElem?_eq_getElem h]; rfl
theorem szE_le (g : Gt α) (xs : List α) (k : Nat) : szE g (xs.take k) ≤ szE g xs := by
 conv => rhs; rw [← List.take_append_drop k xs]
 rw [szE_app]; omega
theorem szE_zero (g : Gt α) (h : ∀ x, g.sz x = 0) : ∀ xs, szE g xs = 0
 | [] => rfl
 | x :: r => by rw [szE, h, szE_zero g h r]
theorem pair_at {β : Type} {g : Gt α} {h : Gt β} {H : Hp} {cs : List Value} {off : Nat} {x : α} {y : β} (h1 : g.rd H ((cs.drop off).take g.size) x) (h2 : h.rd H ((cs.drop (off + g.size)).take h.size) y) :
  (gPair g h).rd H ((cs.drop off).take (g.size + h.size)) (x, y) := by
 refine ⟨_, _, ?_, h1, h2⟩
 rw [List.take_add, List.drop_drop]
end
end
section
structure Item where
 row : List Int
 times : Int
deriving DecidableEq, Inhabited
def gItem : Gt Item := gIso (SX.gPair (gSl 3 gI) gI) (fun x => (x.row, x.times)) (fun p => ⟨p.1, p.2⟩)
theorem gItem_rd {H : Hp} {l : List Value} {x : Item} : gItem.rd H l x ↔ ∃ (b0 : Option Addr) (c0 : Nat), l = .slice b0 x.row.length c0 :: .int .i64 x.times :: [] ∧ (gSl 3 gI).rd H [.slice b0 x.row.length c0] x.row ∧ okI x.times := by
 constructor
 ·rintro ⟨m0, q0, rfl, h0, h1⟩
  obtain ⟨b0, c0, rfl, h0⟩ := sl_rd h0
  obtain ⟨rfl, w1⟩ := h1
  exact ⟨b0, c0, rfl, h0, w1⟩
 rintro ⟨b0, c0, rfl, h0, w1⟩
 exact ⟨[.slice b0 x.row.length c0], [.int .i64 x.times], rfl, h0, ⟨rfl, w1⟩⟩
open Classical in
theorem gItem_ow {A : Hp} {l : List Value} {x : Item} : gItem.ow l x A ↔ ∃ (b0 : Option Addr) (c0 : Nat) (A0 : Hp), l = .slice b0 x.row.length c0 :: .int .i64 x.times :: [] ∧ A.Perm A0 ∧ (gSl 3 gI).ow [.slice b0 x.row.length c0] x.row A0 ∧ okI x.times := by
 constructor
 ·rintro ⟨m0, q0, D0, E0, rfl, p0, h0, h1⟩
  obtain ⟨b0, c0, rfl, h0⟩ := sl_ow h0
  obtain ⟨rfl, w1, e1⟩ := h1
  subst e1
  exact ⟨b0, c0, D0, rfl, (perm_cnt fun a => by have e0 := p0.count_eq a; simp only [List.count_append, List.count_nil] at *; omega), h0, w1⟩
 rintro ⟨b0, c0, A0, rfl, hp, h0, w1⟩
 exact ⟨[.slice b0 x.row.length c0], [.int .i64 x.times], A0, [], rfl, (perm_cnt fun a => by have e := hp.count_eq a; simp only [List.count_append, List.count_nil] at *; omega), h0, ⟨rfl, w1, rfl⟩⟩
theorem opens_Item : Opens prog gItem.toRp 414 := by
 intro H' enc w H sp hd fuel cs d ps hcov ht
 obtain ⟨h1, h2⟩ := trod_fields ty414_ok.1 ht
 obtain ⟨_, _, t0⟩ := h2 0 0 27 rfl
 obtain ⟨x0, r0⟩ := (opens_sl ty27_ok.1 (by kernel_rfl) (by decide) (opens_fi ty3_ok.1)) _ _ H _ _ _ _ _ _ hcov t0
 rw [show prog.cellsOf 27 = 1 by kernel_rfl] at r0
 obtain ⟨_, _, t1⟩ := h2 1 1 3 rfl
 obtain ⟨x1, r1⟩ := (opens_fi ty3_ok.1) _ _ H _ _ _ _ _ _ hcov t1
 rw [show prog.cellsOf 3 = 1 by kernel_rfl] at r1
 rw [show prog.cellsOf 414 = 2 by kernel_rfl] at h1
 have key : gItem.rd H ((cs.drop 0).take 2) ⟨x0, x1⟩ := (pair_at (g := (gSl 3 gI)) (h := gI) (off := 0) r0 r1)
 rw [List.drop_zero, List.take_of_length_le (by omega)] at key
 exact ⟨_, key⟩
def zItem : Item := ⟨[], 0⟩
theorem zItem_ow : gItem.ow [.slice none 0 0, .int .i64 0] zItem [] := gItem_ow.2 ⟨none, 0, [], rfl, by simp, sl_nil _ _ _, by first | (unfold okI; decide) | decide⟩
theorem gItem_row : Fld gItem (gSl 3 gI) (fun x => x.row) (fun x y => { x with row := y }) 0 := (Fld.fst _ _).iso (fun _ => rfl) (fun _ _ => rfl)
theorem gItem_times : Fld gItem gI (fun x => x.times) (fun x y => { x with times := y }) 1 := (Fld.snd _ _).iso (fun _ => rfl) (fun _ _ => rfl)
theorem gItem_sz (x : Item) : gItem.sz x = szL gI x.row + (0) := rfl
theorem gItem_cnt (x : Item) : gItem.cnt x = cntL gI x.row + (1) := rfl
theorem gItem_mark (k : Int) (x : Item) : gItem.mark k x = ⟨mkL gI (k) x.row, k + cntL gI x.row⟩ := by
 have h : gItem.mark k x = ⟨mkL gI (k) x.row, (k + ((cntL gI x.row : Nat) : Int))⟩ := rfl
 rw [h] <;> simp
theorem Item.eq_iff {x y : Item} : x = y ↔ x.row = y.row ∧ x.times = y.times := by cases x; cases y; simp
structure Bag where
 items : List Item
deriving DecidableEq, Inhabited
def gBag : Gt Bag := gIso (gSl 218 gItem) (fun x => x.items) (fun p => ⟨p⟩)
theorem gBag_rd {H : Hp} {l : List Value} {x : Bag} : gBag.rd H l x ↔ ∃ (b0 : Option Addr) (c0 : Nat), l = .slice b0 x.items.length c0 :: [] ∧ (gSl 218 gItem).rd H [.slice b0 x.items.length c0] x.items := by
 constructor
 ·rintro h0
  obtain ⟨b0, c0, rfl, h0⟩ := sl_rd h0
  exact ⟨b0, c0, rfl, h0⟩
 rintro ⟨b0, c0, rfl, h0⟩
 exact h0
open Classical in
theorem gBag_ow {A : Hp} {l : List Value} {x : Bag} : gBag.ow l x A ↔ ∃ (b0 : Option Addr) (c0 : Nat) (A0 : Hp), l = .slice b0 x.items.length c0 :: [] ∧ A.Perm A0 ∧ (gSl 218 gItem).ow [.slice b0 x.items.length c0] x.items A0 := by
 constructor
 ·rintro h0
  obtain ⟨b0, c0, rfl, h0⟩ := sl_ow h0
  exact ⟨b0, c0, A, rfl, .refl _, h0⟩
 rintro ⟨b0, c0, A0, rfl, hp, h0⟩
 exact gBag.owp (l := _) (x := x) h0 hp
theorem opens_Bag : Opens prog gBag.toRp 259 := by
 intro H' enc w H sp hd fuel cs d ps hcov ht
 obtain ⟨h1, h2⟩ := trod_fields ty259_ok.1 ht
 obtain ⟨_, _, t0⟩ := h2 0 0 257 rfl
 obtain ⟨x0, r0⟩ := (opens_sl ty257_ok.1 (by kernel_rfl) (by decide) opens_Item) _ _ H _ _ _ _ _ _ hcov t0
 rw [show prog.cellsOf 257 = 1 by kernel_rfl] at r0
 rw [show prog.cellsOf 259 = 1 by kernel_rfl] at h1
 have key : gBag.rd H ((cs.drop 0).take 1) ⟨x0⟩ := r0
 rw [List.drop_zero, List.take_of_length_le (by omega)] at key
 exact ⟨_, key⟩
def zBag : Bag := ⟨[]⟩
theorem zBag_ow : gBag.ow [.slice none 0 0] zBag [] := gBag_ow.2 ⟨none, 0, [], rfl, by simp, sl_nil _ _ _⟩
theorem gBag_sz (x : Bag) : gBag.sz x = szL gItem x.items := rfl
theorem gBag_cnt (x : Bag) : gBag.cnt x = cntL gItem x.items := rfl
theorem gBag_cntV (x : Bag) : gBag.cntV x = cntL gItem x.items := rfl
theorem gBag_mark (k : Int) (x : Bag) : gBag.mark k x = ⟨mkL gItem (k) x.items⟩ := by
 have h : gBag.mark k x = ⟨mkL gItem (k) x.items⟩ := rfl
 rw [h] <;> simp
theorem gBag_markV (k : Int) (x : Bag) : gBag.markV k x = ⟨mkL gItem (k) x.items⟩ := by
 have h : gBag.markV k x = ⟨mkL gItem (k) x.items⟩ := rfl
 rw [h] <;> simp
theorem Bag.eq_iff {x y : Bag} : x = y ↔ x.items = y.items := by cases x; cases y; simp
structure Edge where
 from' : Int
 label : UInt8
 to : Int
deriving DecidableEq, Inhabited
theorem Edge.eq_iff {x y : Edge} : x = y ↔ x.from' = y.from' ∧ x.label = y.label ∧ x.to = y.to := by cases x; cases y; simp
structure Graph where
 size : Int
 edges : List Edge
deriving DecidableEq, Inhabited
theorem Graph.eq_iff {x y : Graph} : x = y ↔ x.size = y.size ∧ x.edges = y.edges := by cases x; cases y; simp
structure Piece where
 op : Int
 label : UInt8
 kids : List Int
deriving DecidableEq, Inhabited
def gPiece : Gt Piece := gIso (SX.gPair gI (SX.gPair gY (gSl 3 gI))) (fun x => (x.op, (x.label, x.kids))) (fun p => ⟨p.1, p.2.1, p.2.2⟩)
theorem gPiece_rd {H : Hp} {l : List Value} {x : Piece} : gPiece.rd H l x ↔ ∃ (b2 : Option Addr) (c2 : Nat), l = .int .i64 x.op :: .int .u8 (x.label).toNat :: .slice b2 x.kids.length c2 :: [] ∧ okI x.op ∧ (gSl 3 gI).rd H [.slice b2 x.kids.length c2] x.kids := by
 constructor
 ·rintro ⟨m0, q0, rfl, h0, m1, q1, rfl, h1, h2⟩
  obtain ⟨rfl, w0⟩ := h0
  obtain ⟨rfl, w1⟩ := h1
  obtain ⟨b2, c2, rfl, h2⟩ := sl_rd h2
  exact ⟨b2, c2, rfl, w0, h2⟩
 rintro ⟨b2, c2, rfl, w0, h2⟩
 exact ⟨[.int .i64 x.op], .int .u8 (x.label).toNat :: .slice b2 x.kids.length c2 :: [], rfl, ⟨rfl, w0⟩, ⟨[.int .u8 (x.label).toNat], [.slice b2 x.kids.length c2], rfl, ⟨rfl, trivial⟩, h2⟩⟩
open Classical in
theorem gPiece_ow {A : Hp} {l : List Value} {x : Piece} : gPiece.ow l x A ↔ ∃ (b2 : Option Addr) (c2 : Nat) (A2 : Hp), l = .int .i64 x.op :: .int .u8 (x.label).toNat :: .slice b2 x.kids.length c2 :: [] ∧ A.Perm A2 ∧ okI x.op ∧ (gSl 3 gI).ow [.slice b2 x.kids.length c2] x.kids A2 := by
 constructor
 ·rintro ⟨m0, q0, D0, E0, rfl, p0, h0, m1, q1, D1, E1, rfl, p1, h1, h2⟩
  obtain ⟨rfl, w0, e0⟩ := h0
  subst e0
  obtain ⟨rfl, w1, e1⟩ := h1
  subst e1
  obtain ⟨b2, c2, rfl, h2⟩ := sl_ow h2
  exact ⟨b2, c2, E1, rfl, (perm_cnt fun a => by have e0 := p0.count_eq a; have e1 := p1.count_eq a; simp only [List.count_append, List.count_nil] at *; omega), w0, h2⟩
 rintro ⟨b2, c2, A2, rfl, hp, w0, h2⟩
 exact ⟨[.int .i64 x.op], .int .u8 (x.label).toNat :: .slice b2 x.kids.length c2 :: [], [], ([] ++ A2), rfl, (perm_cnt fun a => by have e := hp.count_eq a; simp only [List.count_append, List.count_nil] at *; omega), ⟨rfl, w0, rfl⟩, ⟨[.int .u8 (x.label).toNat], [.slice b2 x.kids.length c2], [], A2, rfl, .refl _, ⟨rfl, trivial, rfl⟩, h2⟩⟩
theorem Piece.eq_iff {x y : Piece} : x = y ↔ x.op = y.op ∧ x.label = y.label ∧ x.kids = y.kids := by cases x; cases y; simp
structure Path where
 pieces : List Piece
deriving DecidableEq, Inhabited
def gPath : Gt Path := gIso (gSl 417 gPiece) (fun x => x.pieces) (fun p => ⟨p⟩)
theorem gPath_rd {H : Hp} {l : List Value} {x : Path} : gPath.rd H l x ↔ ∃ (b0 : Option Addr) (c0 : Nat), l = .slice b0 x.pieces.length c0 :: [] ∧ (gSl 417 gPiece).rd H [.slice b0 x.pieces.length c0] x.pieces := by
 constructor
 ·rintro h0
  obtain ⟨b0, c0, rfl, h0⟩ := sl_rd h0
  exact ⟨b0, c0, rfl, h0⟩
 rintro ⟨b0, c0, rfl, h0⟩
 exact h0
theorem Path.eq_iff {x y : Path} : x = y ↔ x.pieces = y.pieces := by cases x; cases y; simp
structure Arc where
 from' : Int
 label : UInt8
 to : Int
deriving DecidableEq, Inhabited
def gArc : Gt Arc := gIso (SX.gPair gI (SX.gPair gY gI)) (fun x => (x.from', (x.label, x.to))) (fun p => ⟨p.1, p.2.1, p.2.2⟩)
theorem gArc_rd {H : Hp} {l : List Value} {x : Arc} : gArc.rd H l x ↔ l = .int .i64 x.from' :: .int .u8 (x.label).toNat :: .int .i64 x.to :: [] ∧ okI x.from' ∧ okI x.to := by
 constructor
 ·rintro ⟨m0, q0, rfl, h0, m1, q1, rfl, h1, h2⟩
  obtain ⟨rfl, w0⟩ := h0
  obtain ⟨rfl, w1⟩ := h1
  obtain ⟨rfl, w2⟩ := h2
  exact ⟨rfl, w0, w2⟩
 rintro ⟨rfl, w0, w2⟩
 exact ⟨[.int .i64 x.from'], .int .u8 (x.label).toNat :: .int .i64 x.to :: [], rfl, ⟨rfl, w0⟩, ⟨[.int .u8 (x.label).toNat], [.int .i64 x.to], rfl, ⟨rfl, trivial⟩, ⟨rfl, w2⟩⟩⟩
open Classical in
theorem gArc_ow {A : Hp} {l : List Value} {x : Arc} : gArc.ow l x A ↔ l = .int .i64 x.from' :: .int .u8 (x.label).toNat :: .int .i64 x.to :: [] ∧ A.Perm [] ∧ okI x.from' ∧ okI x.to := by
 constructor
 ·rintro ⟨m0, q0, D0, E0, rfl, p0, h0, m1, q1, D1, E1, rfl, p1, h1, h2⟩
  obtain ⟨rfl, w0, e0⟩ := h0
  subst e0
  obtain ⟨rfl, w1, e1⟩ := h1
  subst e1
  obtain ⟨rfl, w2, e2⟩ := h2
  subst e2
  exact ⟨rfl, (perm_cnt fun a => by have e0 := p0.count_eq a; have e1 := p1.count_eq a; simp only [List.count_append, List.count_nil] at *; omega), w0, w2⟩
 rintro ⟨rfl, hp, w0, w2⟩
 exact ⟨[.int .i64 x.from'], .int .u8 (x.label).toNat :: .int .i64 x.to :: [], [], ([] ++ []), rfl, (perm_cnt fun a => by have e := hp.count_eq a; simp only [List.count_append, List.count_nil] at *; omega), ⟨rfl, w0, rfl⟩, ⟨[.int .u8 (x.label).toNat], [.int .i64 x.to], [], [], rfl, .refl _, ⟨rfl, trivial, rfl⟩, ⟨rfl, w2, rfl⟩⟩⟩
theorem Arc.eq_iff {x y : Arc} : x = y ↔ x.from' = y.from' ∧ x.label = y.label ∧ x.to = y.to := by cases x; cases y; simp
theorem gArc_own {H : Hp} {l : List Value} {x : Arc} (h : gArc.rd H l x) : gArc.ow l x [] := by
 obtain ⟨rfl, w0, w2⟩ := gArc_rd.1 h
 exact gArc_ow.2 ⟨rfl, by simp, w0, w2⟩
structure Nfa where
 states : Int
 arcs : List Arc
 ends : List Bool
deriving DecidableEq, Inhabited
def gNfa : Gt Nfa := gIso (SX.gPair gI (SX.gPair (gSl 276 gArc) (gSl 4 gB))) (fun x => (x.states, (x.arcs, x.ends))) (fun p => ⟨p.1, p.2.1, p.2.2⟩)
theorem gNfa_rd {H : Hp} {l : List Value} {x : Nfa} : gNfa.rd H l x ↔ ∃ (b1 : Option Addr) (c1 : Nat) (b2 : Option Addr) (c2 : Nat), l = .int .i64 x.states :: .slice b1 x.arcs.length c1 :: .slice b2 x.ends.length c2 :: [] ∧ okI x.states ∧ (gSl 276 gArc).rd H [.slice b1 x.arcs.length c1] x.arcs ∧ (gSl 4 gB).rd H [.slice b2 x.ends.length c2] x.ends := by
 constructor
 ·rintro ⟨m0, q0, rfl, h0, m1, q1, rfl, h1, h2⟩
  obtain ⟨rfl, w0⟩ := h0
  obtain ⟨b1, c1, rfl, h1⟩ := sl_rd h1
  obtain ⟨b2, c2, rfl, h2⟩ := sl_rd h2
  exact ⟨b1, c1, b2, c2, rfl, w0, h1, h2⟩
 rintro ⟨b1, c1, b2, c2, rfl, w0, h1, h2⟩
 exact ⟨[.int .i64 x.states], .slice b1 x.arcs.length c1 :: .slice b2 x.ends.length c2 :: [], rfl, ⟨rfl, w0⟩, ⟨[.slice b1 x.arcs.length c1], [.slice b2 x.ends.length c2], rfl, h1, h2⟩⟩
open Classical in
theorem gNfa_ow {A : Hp} {l : List Value} {x : Nfa} : gNfa.ow l x A ↔ ∃ (b1 : Option Addr) (c1 : Nat) (A1 : Hp) (b2 : Option Addr) (c2 : Nat) (A2 : Hp), l = .int .i64 x.states :: .slice b1 x.arcs.length c1 :: .slice b2 x.ends.length c2 :: [] ∧ A.Perm (A1 ++ A2) ∧ okI x.states ∧ (gSl 276 gArc).ow [.slice b1 x.arcs.length c1] x.arcs A1 ∧ (gSl 4 gB).ow [.slice b2 x.ends.length c2] x.ends A2 := by
 constructor
 ·rintro ⟨m0, q0, D0, E0, rfl, p0, h0, m1, q1, D1, E1, rfl, p1, h1, h2⟩
  obtain ⟨rfl, w0, e0⟩ := h0
  subst e0
  obtain ⟨b1, c1, rfl, h1⟩ := sl_ow h1
  obtain ⟨b2, c2, rfl, h2⟩ := sl_ow h2
  exact ⟨b1, c1, D1, b2, c2, E1, rfl, (perm_cnt fun a => by have e0 := p0.count_eq a; have e1 := p1.count_eq a; simp only [List.count_append, List.count_nil] at *; omega), w0, h1, h2⟩
 rintro ⟨b1, c1, A1, b2, c2, A2, rfl, hp, w0, h1, h2⟩
 exact ⟨[.int .i64 x.states], .slice b1 x.arcs.length c1 :: .slice b2 x.ends.length c2 :: [], [], (A1 ++ A2), rfl, (perm_cnt fun a => by have e := hp.count_eq a; simp only [List.count_append, List.count_nil] at *; omega), ⟨rfl, w0, rfl⟩, ⟨[.slice b1 x.arcs.length c1], [.slice b2 x.ends.length c2], A1, A2, rfl, .refl _, h1, h2⟩⟩
def zNfa : Nfa := ⟨0, [], []⟩
theorem zNfa_ow : gNfa.ow [.int .i64 0, .slice none 0 0, .slice none 0 0] zNfa [] := gNfa_ow.2 ⟨none, 0, [], none, 0, [], rfl, by simp, by first | (unfold okI; decide) | decide, sl_nil _ _ _, sl_nil _ _ _⟩
theorem Nfa.eq_iff {x y : Nfa} : x = y ↔ x.states = y.states ∧ x.arcs = y.arcs ∧ x.ends = y.ends := by cases x; cases y; simp
structure Atom where
 from' : ByteArray
 path : ByteArray
 to : ByteArray
deriving DecidableEq, Inhabited
def gAtom : Gt Atom := gIso (SX.gPair gS (SX.gPair gS gS)) (fun x => (x.from', (x.path, x.to))) (fun p => ⟨p.1, p.2.1, p.2.2⟩)
theorem gAtom_rd {H : Hp} {l : List Value} {x : Atom} : gAtom.rd H l x ↔ l = .string x.from' :: .string x.path :: .string x.to :: [] ∧ x.from'.size ≤ 9223372036854775807 ∧ x.path.size ≤ 9223372036854775807 ∧ x.to.size ≤ 9223372036854775807 := by
 constructor
 ·rintro ⟨m0, q0, rfl, h0, m1, q1, rfl, h1, h2⟩
  obtain ⟨rfl, w0⟩ := h0
  obtain ⟨rfl, w1⟩ := h1
  obtain ⟨rfl, w2⟩ := h2
  exact ⟨rfl, w0, w1, w2⟩
 rintro ⟨rfl, w0, w1, w2⟩
 exact ⟨[.string x.from'], .string x.path :: .string x.to :: [], rfl, ⟨rfl, w0⟩, ⟨[.string x.path], [.string x.to], rfl, ⟨rfl, w1⟩, ⟨rfl, w2⟩⟩⟩
open Classical in
theorem gAtom_ow {A : Hp} {l : List Value} {x : Atom} : gAtom.ow l x A ↔ l = .string x.from' :: .string x.path :: .string x.to :: [] ∧ A.Perm [] ∧ x.from'.size ≤ 9223372036854775807 ∧ x.path.size ≤ 9223372036854775807 ∧ x.to.size ≤ 9223372036854775807 := by
 constructor
 ·rintro ⟨m0, q0, D0, E0, rfl, p0, h0, m1, q1, D1, E1, rfl, p1, h1, h2⟩
  obtain ⟨rfl, w0, e0⟩ := h0
  subst e0
  obtain ⟨rfl, w1, e1⟩ := h1
  subst e1
  obtain ⟨rfl, w2, e2⟩ := h2
  subst e2
  exact ⟨rfl, (perm_cnt fun a => by have e0 := p0.count_eq a; have e1 := p1.count_eq a; simp only [List.count_append, List.count_nil] at *; omega), w0, w1, w2⟩
 rintro ⟨rfl, hp, w0, w1, w2⟩
 exact ⟨[.string x.from'], .string x.path :: .string x.to :: [], [], ([] ++ []), rfl, (perm_cnt fun a => by have e := hp.count_eq a; simp only [List.count_append, List.count_nil] at *; omega), ⟨rfl, w0, rfl⟩, ⟨[.string x.path], [.string x.to], [], [], rfl, .refl _, ⟨rfl, w1, rfl⟩, ⟨rfl, w2, rfl⟩⟩⟩
theorem opens_Atom : Opens prog gAtom.toRp 211 := by
 intro H' enc w H sp hd fuel cs d ps hcov ht
 obtain ⟨h1, h2⟩ := trod_fields ty211_ok.1 ht
 obtain ⟨_, _, t0⟩ := h2 0 0 9 rfl
 obtain ⟨x0, r0⟩ := (opens_fs ty9_ok.1) _ _ H _ _ _ _ _ _ hcov t0
 rw [show prog.cellsOf 9 = 1 by kernel_rfl] at r0
 obtain ⟨_, _, t1⟩ := h2 1 1 9 rfl
 obtain ⟨x1, r1⟩ := (opens_fs ty9_ok.1) _ _ H _ _ _ _ _ _ hcov t1
 rw [show prog.cellsOf 9 = 1 by kernel_rfl] at r1
 obtain ⟨_, _, t2⟩ := h2 2 2 9 rfl
 obtain ⟨x2, r2⟩ := (opens_fs ty9_ok.1) _ _ H _ _ _ _ _ _ hcov t2
 rw [show prog.cellsOf 9 = 1 by kernel_rfl] at r2
 rw [show prog.cellsOf 211 = 3 by kernel_rfl] at h1
 have key : gAtom.rd H ((cs.drop 0).take 3) ⟨x0, x1, x2⟩ := (pair_at (g := gS) (h := (SX.gPair gS gS)) (off := 0) r0 (pair_at (g := gS) (h := gS) (off := 1) r1 r2))
 rw [List.drop_zero, List.take_of_length_le (by omega)] at key
 exact ⟨_, key⟩
def zAtom : Atom := ⟨ByteArray.empty, ByteArray.empty, ByteArray.empty⟩
theorem zAtom_ow : gAtom.ow [.string .empty, .string .empty, .string .empty] zAtom [] := gAtom_ow.2 ⟨rfl, by simp, by first | (unfold okI; decide) | decide, by first | (unfold okI; decide) | decide, by first | (unfold okI; decide) | decide⟩
theorem gAtom_from : Fld gAtom gS (fun x => x.from') (fun x y => { x with from' := y }) 0 := (Fld.fst _ _).iso (fun _ => rfl) (fun _ _ => rfl)
theorem gAtom_path : Fld gAtom gS (fun x => x.path) (fun x y => { x with path := y }) 1 := ((Fld.snd _ _).comp (Fld.fst _ _)).iso (fun _ => rfl) (fun _ _ => rfl)
theorem gAtom_to : Fld gAtom gS (fun x => x.to) (fun x y => { x with to := y }) 2 := ((Fld.snd _ _).comp (Fld.snd _ _)).iso (fun _ => rfl) (fun _ _ => rfl)
theorem gAtom_sz (x : Atom) : gAtom.sz x = x.from'.size + (x.path.size + (x.to.size)) := rfl
theorem gAtom_cnt (x : Atom) : gAtom.cnt x = 1 + (1 + (1)) := rfl
theorem gAtom_mark (k : Int) (x : Atom) : gAtom.mark k x = ⟨mtx (k), mtx (k + 1), mtx (k + 1 + 1)⟩ := by
 have h : gAtom.mark k x = ⟨mtx (k), mtx ((k + ((1 : Nat) : Int))), mtx (((k + ((1 : Nat) : Int)) + ((1 : Nat) : Int)))⟩ := rfl
 rw [h] <;> simp
theorem Atom.eq_iff {x y : Atom} : x = y ↔ x.from' = y.from' ∧ x.path = y.path ∧ x.to = y.to := by cases x; cases y; simp
structure Filter where
 left : ByteArray
 op : Int
 right : ByteArray
 num : Int
deriving DecidableEq, Inhabited
def gFilter : Gt Filter := gIso (SX.gPair gS (SX.gPair gI (SX.gPair gS gI))) (fun x => (x.left, (x.op, (x.right, x.num)))) (fun p => ⟨p.1, p.2.1, p.2.2.1, p.2.2.2⟩)
theorem gFilter_rd {H : Hp} {l : List Value} {x : Filter} : gFilter.rd H l x ↔ l = .string x.left :: .int .i64 x.op :: .string x.right :: .int .i64 x.num :: [] ∧ x.left.size ≤ 9223372036854775807 ∧ okI x.op ∧ x.right.size ≤ 9223372036854775807 ∧ okI x.num := by
 constructor
 ·rintro ⟨m0, q0, rfl, h0, m1, q1, rfl, h1, m2, q2, rfl, h2, h3⟩
  obtain ⟨rfl, w0⟩ := h0
  obtain ⟨rfl, w1⟩ := h1
  obtain ⟨rfl, w2⟩ := h2
  obtain ⟨rfl, w3⟩ := h3
  exact ⟨rfl, w0, w1, w2, w3⟩
 rintro ⟨rfl, w0, w1, w2, w3⟩
 exact ⟨[.string x.left], .int .i64 x.op :: .string x.right :: .int .i64 x.num :: [], rfl, ⟨rfl, w0⟩, ⟨[.int .i64 x.op], .string x.right :: .int .i64 x.num :: [], rfl, ⟨rfl, w1⟩, ⟨[.string x.right], [.int .i64 x.num], rfl, ⟨rfl, w2⟩, ⟨rfl, w3⟩⟩⟩⟩
open Classical in
theorem gFilter_ow {A : Hp} {l : List Value} {x : Filter} : gFilter.ow l x A ↔ l = .string x.left :: .int .i64 x.op :: .string x.right :: .int .i64 x.num :: [] ∧ A.Perm [] ∧ x.left.size ≤ 9223372036854775807 ∧ okI x.op ∧ x.right.size ≤ 9223372036854775807 ∧ okI x.num := by
 constructor
 ·rintro ⟨m0, q0, D0, E0, rfl, p0, h0, m1, q1, D1, E1, rfl, p1, h1, m2, q2, D2, E2, rfl, p2, h2, h3⟩
  obtain ⟨rfl, w0, e0⟩ := h0
  subst e0
  obtain ⟨rfl, w1, e1⟩ := h1
  subst e1
  obtain ⟨rfl, w2, e2⟩ := h2
  subst e2
  obtain ⟨rfl, w3, e3⟩ := h3
  subst e3
  exact ⟨rfl, (perm_cnt fun a => by have e0 := p0.count_eq a; have e1 := p1.count_eq a; have e2 := p2.count_eq a; simp only [List.count_append, List.count_nil] at *; omega), w0, w1, w2, w3⟩
 rintro ⟨rfl, hp, w0, w1, w2, w3⟩
 exact ⟨[.string x.left], .int .i64 x.op :: .string x.right :: .int .i64 x.num :: [], [], ([] ++ ([] ++ [])), rfl, (perm_cnt fun a => by have e := hp.count_eq a; simp only [List.count_append, List.count_nil] at *; omega), ⟨rfl, w0, rfl⟩, ⟨[.int .i64 x.op], .string x.right :: .int .i64 x.num :: [], [], ([] ++ []), rfl, .refl _, ⟨rfl, w1, rfl⟩, ⟨[.string x.right], [.int .i64 x.num], [], [], rfl, .refl _, ⟨rfl, w2, rfl⟩, ⟨rfl, w3, rfl⟩⟩⟩⟩
theorem opens_Filter : Opens prog gFilter.toRp 214 := by
 intro H' enc w H sp hd fuel cs d ps hcov ht
 obtain ⟨h1, h2⟩ := trod_fields ty214_ok.1 ht
 obtain ⟨_, _, t0⟩ := h2 0 0 9 rfl
 obtain ⟨x0, r0⟩ := (opens_fs ty9_ok.1) _ _ H _ _ _ _ _ _ hcov t0
 rw [show prog.cellsOf 9 = 1 by kernel_rfl] at r0
 obtain ⟨_, _, t1⟩ := h2 1 1 3 rfl
 obtain ⟨x1, r1⟩ := (opens_fi ty3_ok.1) _ _ H _ _ _ _ _ _ hcov t1
 rw [show prog.cellsOf 3 = 1 by kernel_rfl] at r1
 obtain ⟨_, _, t2⟩ := h2 2 2 9 rfl
 obtain ⟨x2, r2⟩ := (opens_fs ty9_ok.1) _ _ H _ _ _ _ _ _ hcov t2
 rw [show prog.cellsOf 9 = 1 by kernel_rfl] at r2
 obtain ⟨_, _, t3⟩ := h2 3 3 3 rfl
 obtain ⟨x3, r3⟩ := (opens_fi ty3_ok.1) _ _ H _ _ _ _ _ _ hcov t3
 rw [show prog.cellsOf 3 = 1 by kernel_rfl] at r3
 rw [show prog.cellsOf 214 = 4 by kernel_rfl] at h1
 have key : gFilter.rd H ((cs.drop 0).take 4) ⟨x0, x1, x2, x3⟩ := (pair_at (g := gS) (h := (SX.gPair gI (SX.gPair gS gI))) (off := 0) r0 (pair_at (g := gI) (h := (SX.gPair gS gI)) (off := 1) r1 (pair_at (g := gS) (h := gI) (off := 2) r2 r3)))
 rw [List.drop_zero, List.take_of_length_le (by omega)] at key
 exact ⟨_, key⟩
def zFilter : Filter := ⟨ByteArray.empty, 0, ByteArray.empty, 0⟩
theorem zFilter_ow : gFilter.ow [.string .empty, .int .i64 0, .string .empty, .int .i64 0] zFilter [] := gFilter_ow.2 ⟨rfl, by simp, by first | (unfold okI; decide) | decide, by first | (unfold okI; decide) | decide, by first | (unfold okI; decide) | decide, by first | (unfold okI; decide) | decide⟩
theorem gFilter_left : Fld gFilter gS (fun x => x.left) (fun x y => { x with left := y }) 0 := (Fld.fst _ _).iso (fun _ => rfl) (fun _ _ => rfl)
theorem gFilter_op : Fld gFilter gI (fun x => x.op) (fun x y => { x with op := y }) 1 := ((Fld.snd _ _).comp (Fld.fst _ _)).iso (fun _ => rfl) (fun _ _ => rfl)
theorem gFilter_right : Fld gFilter gS (fun x => x.right) (fun x y => { x with right := y }) 2 := ((Fld.snd _ _).comp ((Fld.snd _ _).comp (Fld.fst _ _))).iso (fun _ => rfl) (fun _ _ => rfl)
theorem gFilter_num : Fld gFilter gI (fun x => x.num) (fun x y => { x with num := y }) 3 := ((Fld.snd _ _).comp ((Fld.snd _ _).comp (Fld.snd _ _))).iso (fun _ => rfl) (fun _ _ => rfl)
theorem gFilter_sz (x : Filter) : gFilter.sz x = x.left.size + (0 + (x.right.size + (0))) := rfl
theorem gFilter_cnt (x : Filter) : gFilter.cnt x = 1 + (1 + (1 + (1))) := rfl
theorem gFilter_mark (k : Int) (x : Filter) : gFilter.mark k x = ⟨mtx (k), k + 1, mtx (k + 1 + 1), k + 1 + 1 + 1⟩ := by
 have h : gFilter.mark k x = ⟨mtx (k), (k + ((1 : Nat) : Int)), mtx (((k + ((1 : Nat) : Int)) + ((1 : Nat) : Int))), (((k + ((1 : Nat) : Int)) + ((1 : Nat) : Int)) + ((1 : Nat) : Int))⟩ := rfl
 rw [h] <;> simp
theorem Filter.eq_iff {x y : Filter} : x = y ↔ x.left = y.left ∧ x.op = y.op ∧ x.right = y.right ∧ x.num = y.num := by cases x; cases y; simp
structure Query where
 each : Bool
 out : List ByteArray
 atoms : List Atom
 filters : List Filter
deriving DecidableEq, Inhabited
def gQuery : Gt Query := gIso (SX.gPair gB (SX.gPair (gSl 9 gS) (SX.gPair (gSl 118 gAtom) (gSl 220 gFilter)))) (fun x => (x.each, (x.out, (x.atoms, x.filters)))) (fun p => ⟨p.1, p.2.1, p.2.2.1, p.2.2.2⟩)
theorem gQuery_rd {H : Hp} {l : List Value} {x : Query} : gQuery.rd H l x ↔ ∃ (b1 : Option Addr) (c1 : Nat) (b2 : Option Addr) (c2 : Nat) (b3 : Option Addr) (c3 : Nat), l = .bool x.each :: .slice b1 x.out.length c1 :: .slice b2 x.atoms.length c2 :: .slice b3 x.filters.length c3 :: [] ∧ (gSl 9 gS).rd H [.slice b1 x.out.length c1] x.out ∧ (gSl 118 gAtom).rd H [.slice b2 x.atoms.length c2] x.atoms ∧ (gSl 220 gFilter).rd H [.slice b3 x.filters.length c3] x.filters := by
 constructor
 ·rintro ⟨m0, q0, rfl, h0, m1, q1, rfl, h1, m2, q2, rfl, h2, h3⟩
  obtain ⟨rfl, w0⟩ := h0
  obtain ⟨b1, c1, rfl, h1⟩ := sl_rd h1
  obtain ⟨b2, c2, rfl, h2⟩ := sl_rd h2
  obtain ⟨b3, c3, rfl, h3⟩ := sl_rd h3
  exact ⟨b1, c1, b2, c2, b3, c3, rfl, h1, h2, h3⟩
 rintro ⟨b1, c1, b2, c2, b3, c3, rfl, h1, h2, h3⟩
 exact ⟨[.bool x.each], .slice b1 x.out.length c1 :: .slice b2 x.atoms.length c2 :: .slice b3 x.filters.length c3 :: [], rfl, ⟨rfl, trivial⟩, ⟨[.slice b1 x.out.length c1], .slice b2 x.atoms.length c2 :: .slice b3 x.filters.length c3 :: [], rfl, h1, ⟨[.slice b2 x.atoms.length c2], [.slice b3 x.filters.length c3], rfl, h2, h3⟩⟩⟩
open Classical in
theorem gQuery_ow {A : Hp} {l : List Value} {x : Query} : gQuery.ow l x A ↔ ∃ (b1 : Option Addr) (c1 : Nat) (A1 : Hp) (b2 : Option Addr) (c2 : Nat) (A2 : Hp) (b3 : Option Addr) (c3 : Nat) (A3 : Hp), l = .bool x.each :: .slice b1 x.out.length c1 :: .slice b2 x.atoms.length c2 :: .slice b3 x.filters.length c3 :: [] ∧ A.Perm (A1 ++ (A2 ++ A3)) ∧ (gSl 9 gS).ow [.slice b1 x.out.length c1] x.out A1 ∧ (gSl 118 gAtom).ow [.slice b2 x.atoms.length c2] x.atoms A2 ∧ (gSl 220 gFilter).ow [.slice b3 x.filters.length c3] x.filters A3 := by
 constructor
 ·rintro ⟨m0, q0, D0, E0, rfl, p0, h0, m1, q1, D1, E1, rfl, p1, h1, m2, q2, D2, E2, rfl, p2, h2, h3⟩
  obtain ⟨rfl, w0, e0⟩ := h0
  subst e0
  obtain ⟨b1, c1, rfl, h1⟩ := sl_ow h1
  obtain ⟨b2, c2, rfl, h2⟩ := sl_ow h2
  obtain ⟨b3, c3, rfl, h3⟩ := sl_ow h3
  exact ⟨b1, c1, D1, b2, c2, D2, b3, c3, E2, rfl, (perm_cnt fun a => by have e0 := p0.count_eq a; have e1 := p1.count_eq a; have e2 := p2.count_eq a; simp only [List.count_append, List.count_nil] at *; omega), h1, h2, h3⟩
 rintro ⟨b1, c1, A1, b2, c2, A2, b3, c3, A3, rfl, hp, h1, h2, h3⟩
 exact ⟨[.bool x.each], .slice b1 x.out.length c1 :: .slice b2 x.atoms.length c2 :: .slice b3 x.filters.length c3 :: [], [], (A1 ++ (A2 ++ A3)), rfl, (perm_cnt fun a => by have e := hp.count_eq a; simp only [List.count_append, List.count_nil] at *; omega), ⟨rfl, trivial, rfl⟩, ⟨[.slice b1 x.out.length c1], .slice b2 x.atoms.length c2 :: .slice b3 x.filters.length c3 :: [], A1, (A2 ++ A3), rfl, .refl _, h1, ⟨[.slice b2 x.atoms.length c2], [.slice b3 x.filters.length c3], A2, A3, rfl, .refl _, h2, h3⟩⟩⟩
theorem opens_Query : Opens prog gQuery.toRp 26 := by
 intro H' enc w H sp hd fuel cs d ps hcov ht
 obtain ⟨h1, h2⟩ := trod_fields ty26_ok.1 ht
 obtain ⟨_, _, t0⟩ := h2 0 0 4 rfl
 obtain ⟨x0, r0⟩ := (opens_fb ty4_ok.1) _ _ H _ _ _ _ _ _ hcov t0
 rw [show prog.cellsOf 4 = 1 by kernel_rfl] at r0
 obtain ⟨_, _, t1⟩ := h2 1 1 22 rfl
 obtain ⟨x1, r1⟩ := (opens_sl ty22_ok.1 (by kernel_rfl) (by decide) (opens_fs ty9_ok.1)) _ _ H _ _ _ _ _ _ hcov t1
 rw [show prog.cellsOf 22 = 1 by kernel_rfl] at r1
 obtain ⟨_, _, t2⟩ := h2 2 2 23 rfl
 obtain ⟨x2, r2⟩ := (opens_sl ty23_ok.1 (by kernel_rfl) (by decide) opens_Atom) _ _ H _ _ _ _ _ _ hcov t2
 rw [show prog.cellsOf 23 = 1 by kernel_rfl] at r2
 obtain ⟨_, _, t3⟩ := h2 3 3 24 rfl
 obtain ⟨x3, r3⟩ := (opens_sl ty24_ok.1 (by kernel_rfl) (by decide) opens_Filter) _ _ H _ _ _ _ _ _ hcov t3
 rw [show prog.cellsOf 24 = 1 by kernel_rfl] at r3
 rw [show prog.cellsOf 26 = 4 by kernel_rfl] at h1
 have key : gQuery.rd H ((cs.drop 0).take 4) ⟨x0, x1, x2, x3⟩ := (pair_at (g := gB) (h := (SX.gPair (gSl 9 gS) (SX.gPair (gSl 118 gAtom) (gSl 220 gFilter)))) (off := 0) r0 (pair_at (g := (gSl 9 gS)) (h := (SX.gPair (gSl 118 gAtom) (gSl 220 gFilter))) (off := 1) r1 (pair_at (g := (gSl 118 gAtom)) (h := (gSl 220 gFilter)) (off := 2) r2 r3)))
 rw [List.drop_zero, List.take_of_length_le (by omega)] at key
 exact ⟨_, key⟩
theorem gQuery_sz (x : Query) : gQuery.sz x = 0 + (szL gS x.out + (szL gAtom x.atoms + (szL gFilter x.filters))) := rfl
theorem gQuery_cntV (x : Query) : gQuery.cntV x = 0 + (cntL gS x.out + (cntL gAtom x.atoms + (cntL gFilter x.filters))) := rfl
theorem gQuery_markV (k : Int) (x : Query) : gQuery.markV k x = ⟨x.each, mkL gS (k) x.out, mkL gAtom (k + cntL gS x.out) x.atoms, mkL gFilter (k + cntL gS x.out + cntL gAtom x.atoms) x.filters⟩ := by
 have h : gQuery.markV k x = ⟨x.each, mkL gS ((k + ((0 : Nat) : Int))) x.out, mkL gAtom (((k + ((0 : Nat) : Int)) + ((cntL gS x.out : Nat) : Int))) x.atoms, mkL gFilter ((((k + ((0 : Nat) : Int)) + ((cntL gS x.out : Nat) : Int)) + ((cntL gAtom x.atoms : Nat) : Int))) x.filters⟩ := rfl
 rw [h] <;> simp
theorem Query.eq_iff {x y : Query} : x = y ↔ x.each = y.each ∧ x.out = y.out ∧ x.atoms = y.atoms ∧ x.filters = y.filters := by cases x; cases y; simp
structure Table where
 cols : List ByteArray
 bag : Bag
deriving DecidableEq, Inhabited
def gTable : Gt Table := gIso (SX.gPair (gSl 9 gS) gBag) (fun x => (x.cols, x.bag)) (fun p => ⟨p.1, p.2⟩)
theorem gTable_rd {H : Hp} {l : List Value} {x : Table} : gTable.rd H l x ↔ ∃ (b0 : Option Addr) (c0 : Nat) (l1 : List Value), l = .slice b0 x.cols.length c0 :: l1 ++ ([]) ∧ (gSl 9 gS).rd H [.slice b0 x.cols.length c0] x.cols ∧ gBag.rd H l1 x.bag := by
 constructor
 ·rintro ⟨m0, q0, rfl, h0, h1⟩
  obtain ⟨b0, c0, rfl, h0⟩ := sl_rd h0
  exact ⟨b0, c0, q0, (by simp [flInt, flBool, flByte, flStr]), h0, h1⟩
 rintro ⟨b0, c0, l1, rfl, h0, h1⟩
 exact ⟨[.slice b0 x.cols.length c0], l1, (by simp [flInt, flBool, flByte, flStr]), h0, h1⟩
open Classical in
theorem gTable_ow {A : Hp} {l : List Value} {x : Table} : gTable.ow l x A ↔ ∃ (b0 : Option Addr) (c0 : Nat) (A0 : Hp) (l1 : List Value) (A1 : Hp), l = .slice b0 x.cols.length c0 :: l1 ++ ([]) ∧ A.Perm (A0 ++ A1) ∧ (gSl 9 gS).ow [.slice b0 x.cols.length c0] x.cols A0 ∧ gBag.ow l1 x.bag A1 := by
 constructor
 ·rintro ⟨m0, q0, D0, E0, rfl, p0, h0, h1⟩
  obtain ⟨b0, c0, rfl, h0⟩ := sl_ow h0
  exact ⟨b0, c0, D0, q0, E0, (by simp [flInt, flBool, flByte, flStr]), (perm_cnt fun a => by have e0 := p0.count_eq a; simp only [List.count_append, List.count_nil] at *; omega), h0, h1⟩
 rintro ⟨b0, c0, A0, l1, A1, rfl, hp, h0, h1⟩
 exact ⟨[.slice b0 x.cols.length c0], l1, A0, A1, (by simp [flInt, flBool, flByte, flStr]), (perm_cnt fun a => by have e := hp.count_eq a; simp only [List.count_append, List.count_nil] at *; omega), h0, h1⟩
theorem Table.eq_iff {x y : Table} : x = y ↔ x.cols = y.cols ∧ x.bag = y.bag := by cases x; cases y; simp
structure File where
 name : ByteArray
 text : ByteArray
 kept : Int
deriving DecidableEq, Inhabited
theorem File.eq_iff {x y : File} : x = y ↔ x.name = y.name ∧ x.text = y.text ∧ x.kept = y.kept := by cases x; cases y; simp
structure Disk where
 files : List File
deriving DecidableEq, Inhabited
theorem Disk.eq_iff {x y : Disk} : x = y ↔ x.files = y.files := by cases x; cases y; simp
structure Act where
 kind : Int
 name : ByteArray
 text : ByteArray
 to : ByteArray
deriving DecidableEq, Inhabited
theorem Act.eq_iff {x y : Act} : x = y ↔ x.kind = y.kind ∧ x.name = y.name ∧ x.text = y.text ∧ x.to = y.to := by cases x; cases y; simp
structure Walk where
 atom : Int
 src : Int
 at' : Int
 state : Int
deriving DecidableEq, Inhabited
theorem Walk.eq_iff {x y : Walk} : x = y ↔ x.atom = y.atom ∧ x.src = y.src ∧ x.at' = y.at' ∧ x.state = y.state := by cases x; cases y; simp
structure Letter where
 kind : Int
 atom : Int
 num : Int
 black : Bool
 walks : List Walk
 text : ByteArray
deriving DecidableEq, Inhabited
theorem Letter.eq_iff {x y : Letter} : x = y ↔ x.kind = y.kind ∧ x.atom = y.atom ∧ x.num = y.num ∧ x.black = y.black ∧ x.walks = y.walks ∧ x.text = y.text := by cases x; cases y; simp
structure Link where
 sent : List ByteArray
 acked : Int
 took : Int
deriving DecidableEq, Inhabited
theorem Link.eq_iff {x y : Link} : x = y ↔ x.sent = y.sent ∧ x.acked = y.acked ∧ x.took = y.took := by cases x; cases y; simp
structure Got where
 from' : Int
 atom : Int
 bag : Bag
deriving DecidableEq, Inhabited
def gGot : Gt Got := gIso (SX.gPair gI (SX.gPair gI gBag)) (fun x => (x.from', (x.atom, x.bag))) (fun p => ⟨p.1, p.2.1, p.2.2⟩)
theorem gGot_rd {H : Hp} {l : List Value} {x : Got} : gGot.rd H l x ↔ ∃ (l2 : List Value), l = .int .i64 x.from' :: .int .i64 x.atom :: l2 ++ ([]) ∧ okI x.from' ∧ okI x.atom ∧ gBag.rd H l2 x.bag := by
 constructor
 ·rintro ⟨m0, q0, rfl, h0, m1, q1, rfl, h1, h2⟩
  obtain ⟨rfl, w0⟩ := h0
  obtain ⟨rfl, w1⟩ := h1
  exact ⟨q1, (by simp [flInt, flBool, flByte, flStr]), w0, w1, h2⟩
 rintro ⟨l2, rfl, w0, w1, h2⟩
 exact ⟨[.int .i64 x.from'], .int .i64 x.atom :: l2 ++ ([]), rfl, ⟨rfl, w0⟩, ⟨[.int .i64 x.atom], l2, (by simp [flInt, flBool, flByte, flStr]), ⟨rfl, w1⟩, h2⟩⟩
open Classical in
theorem gGot_ow {A : Hp} {l : List Value} {x : Got} : gGot.ow l x A ↔ ∃ (l2 : List Value) (A2 : Hp), l = .int .i64 x.from' :: .int .i64 x.atom :: l2 ++ ([]) ∧ A.Perm A2 ∧ okI x.from' ∧ okI x.atom ∧ gBag.ow l2 x.bag A2 := by
 constructor
 ·rintro ⟨m0, q0, D0, E0, rfl, p0, h0, m1, q1, D1, E1, rfl, p1, h1, h2⟩
  obtain ⟨rfl, w0, e0⟩ := h0
  subst e0
  obtain ⟨rfl, w1, e1⟩ := h1
  subst e1
  exact ⟨q1, E1, (by simp [flInt, flBool, flByte, flStr]), (perm_cnt fun a => by have e0 := p0.count_eq a; have e1 := p1.count_eq a; simp only [List.count_append, List.count_nil] at *; omega), w0, w1, h2⟩
 rintro ⟨l2, A2, rfl, hp, w0, w1, h2⟩
 exact ⟨[.int .i64 x.from'], .int .i64 x.atom :: l2 ++ ([]), [], ([] ++ A2), rfl, (perm_cnt fun a => by have e := hp.count_eq a; simp only [List.count_append, List.count_nil] at *; omega), ⟨rfl, w0, rfl⟩, ⟨[.int .i64 x.atom], l2, [], A2, (by simp [flInt, flBool, flByte, flStr]), .refl _, ⟨rfl, w1, rfl⟩, h2⟩⟩
theorem opens_Got : Opens prog gGot.toRp 294 := by
 intro H' enc w H sp hd fuel cs d ps hcov ht
 obtain ⟨h1, h2⟩ := trod_fields ty294_ok.1 ht
 obtain ⟨_, _, t0⟩ := h2 0 0 3 rfl
 obtain ⟨x0, r0⟩ := (opens_fi ty3_ok.1) _ _ H _ _ _ _ _ _ hcov t0
 rw [show prog.cellsOf 3 = 1 by kernel_rfl] at r0
 obtain ⟨_, _, t1⟩ := h2 1 1 3 rfl
 obtain ⟨x1, r1⟩ := (opens_fi ty3_ok.1) _ _ H _ _ _ _ _ _ hcov t1
 rw [show prog.cellsOf 3 = 1 by kernel_rfl] at r1
 obtain ⟨_, _, t2⟩ := h2 2 2 259 rfl
 obtain ⟨x2, r2⟩ := opens_Bag _ _ H _ _ _ _ _ _ hcov t2
 rw [show prog.cellsOf 259 = 1 by kernel_rfl] at r2
 rw [show prog.cellsOf 294 = 3 by kernel_rfl] at h1
 have key : gGot.rd H ((cs.drop 0).take 3) ⟨x0, x1, x2⟩ := (pair_at (g := gI) (h := (SX.gPair gI gBag)) (off := 0) r0 (pair_at (g := gI) (h := gBag) (off := 1) r1 r2))
 rw [List.drop_zero, List.take_of_length_le (by omega)] at key
 exact ⟨_, key⟩
def zGot : Got := ⟨0, 0, zBag⟩
theorem zGot_ow : gGot.ow [.int .i64 0, .int .i64 0, .slice none 0 0] zGot [] := gGot_ow.2 ⟨_, [], rfl, by simp, by first | (unfold okI; decide) | decide, by first | (unfold okI; decide) | decide, zBag_ow⟩
theorem gGot_from : Fld gGot gI (fun x => x.from') (fun x y => { x with from' := y }) 0 := (Fld.fst _ _).iso (fun _ => rfl) (fun _ _ => rfl)
theorem gGot_atom : Fld gGot gI (fun x => x.atom) (fun x y => { x with atom := y }) 1 := ((Fld.snd _ _).comp (Fld.fst _ _)).iso (fun _ => rfl) (fun _ _ => rfl)
theorem gGot_bag : Fld gGot gBag (fun x => x.bag) (fun x y => { x with bag := y }) 2 := ((Fld.snd _ _).comp (Fld.snd _ _)).iso (fun _ => rfl) (fun _ _ => rfl)
theorem gGot_sz (x : Got) : gGot.sz x = 0 + (0 + (gBag.sz x.bag)) := rfl
theorem gGot_cnt (x : Got) : gGot.cnt x = 1 + (1 + (gBag.cnt x.bag)) := rfl
theorem gGot_mark (k : Int) (x : Got) : gGot.mark k x = ⟨k, k + 1, gBag.mark (k + 1 + 1) x.bag⟩ := by
 have h : gGot.mark k x = ⟨k, (k + ((1 : Nat) : Int)), gBag.mark (((k + ((1 : Nat) : Int)) + ((1 : Nat) : Int))) x.bag⟩ := rfl
 rw [h] <;> simp
theorem Got.eq_iff {x y : Got} : x = y ↔ x.from' = y.from' ∧ x.atom = y.atom ∧ x.bag = y.bag := by cases x; cases y; simp
structure Cell where
 query : Query
 shares : List Int
 at' : Int
 n : Int
 gots : List Got
deriving DecidableEq, Inhabited
def gCell : Gt Cell := gIso (SX.gPair gQuery (SX.gPair (gSl 3 gI) (SX.gPair gI (SX.gPair gI (gSl 188 gGot))))) (fun x => (x.query, (x.shares, (x.at', (x.n, x.gots))))) (fun p => ⟨p.1, p.2.1, p.2.2.1, p.2.2.2.1, p.2.2.2.2⟩)
theorem gCell_rd {H : Hp} {l : List Value} {x : Cell} : gCell.rd H l x ↔ ∃ (l0 : List Value) (b1 : Option Addr) (c1 : Nat) (b4 : Option Addr) (c4 : Nat), l = l0 ++ (.slice b1 x.shares.length c1 :: .int .i64 x.at' :: .int .i64 x.n :: .slice b4 x.gots.length c4 :: []) ∧ gQuery.rd H l0 x.query ∧ (gSl 3 gI).rd H [.slice b1 x.shares.length c1] x.shares ∧ okI x.at' ∧ okI x.n ∧ (gSl 188 gGot).rd H [.slice b4 x.gots.length c4] x.gots := by
 constructor
 ·rintro ⟨m0, q0, rfl, h0, m1, q1, rfl, h1, m2, q2, rfl, h2, m3, q3, rfl, h3, h4⟩
  obtain ⟨b1, c1, rfl, h1⟩ := sl_rd h1
  obtain ⟨rfl, w2⟩ := h2
  obtain ⟨rfl, w3⟩ := h3
  obtain ⟨b4, c4, rfl, h4⟩ := sl_rd h4
  exact ⟨m0, b1, c1, b4, c4, rfl, h0, h1, w2, w3, h4⟩
 rintro ⟨l0, b1, c1, b4, c4, rfl, h0, h1, w2, w3, h4⟩
 exact ⟨l0, .slice b1 x.shares.length c1 :: .int .i64 x.at' :: .int .i64 x.n :: .slice b4 x.gots.length c4 :: [], rfl, h0, ⟨[.slice b1 x.shares.length c1], .int .i64 x.at' :: .int .i64 x.n :: .slice b4 x.gots.length c4 :: [], rfl, h1, ⟨[.int .i64 x.at'], .int .i64 x.n :: .slice b4 x.gots.length c4 :: [], rfl, ⟨rfl, w2⟩, ⟨[.int .i64 x.n], [.slice b4 x.gots.length c4], rfl, ⟨rfl, w3⟩, h4⟩⟩⟩⟩
open Classical in
theorem gCell_ow {A : Hp} {l : List Value} {x : Cell} : gCell.ow l x A ↔ ∃ (l0 : List Value) (A0 : Hp) (b1 : Option Addr) (c1 : Nat) (A1 : Hp) (b4 : Option Addr) (c4 : Nat) (A4 : Hp), l = l0 ++ (.slice b1 x.shares.length c1 :: .int .i64 x.at' :: .int .i64 x.n :: .slice b4 x.gots.length c4 :: []) ∧ A.Perm (A0 ++ (A1 ++ A4)) ∧ gQuery.ow l0 x.query A0 ∧ (gSl 3 gI).ow [.slice b1 x.shares.length c1] x.shares A1 ∧ okI x.at' ∧ okI x.n ∧ (gSl 188 gGot).ow [.slice b4 x.gots.length c4] x.gots A4 := by
 constructor
 ·rintro ⟨m0, q0, D0, E0, rfl, p0, h0, m1, q1, D1, E1, rfl, p1, h1, m2, q2, D2, E2, rfl, p2, h2, m3, q3, D3, E3, rfl, p3, h3, h4⟩
  obtain ⟨b1, c1, rfl, h1⟩ := sl_ow h1
  obtain ⟨rfl, w2, e2⟩ := h2
  subst e2
  obtain ⟨rfl, w3, e3⟩ := h3
  subst e3
  obtain ⟨b4, c4, rfl, h4⟩ := sl_ow h4
  exact ⟨m0, D0, b1, c1, D1, b4, c4, E3, rfl, (perm_cnt fun a => by have e0 := p0.count_eq a; have e1 := p1.count_eq a; have e2 := p2.count_eq a; have e3 := p3.count_eq a; simp only [List.count_append, List.count_nil] at *; omega), h0, h1, w2, w3, h4⟩
 rintro ⟨l0, A0, b1, c1, A1, b4, c4, A4, rfl, hp, h0, h1, w2, w3, h4⟩
 exact ⟨l0, .slice b1 x.shares.length c1 :: .int .i64 x.at' :: .int .i64 x.n :: .slice b4 x.gots.length c4 :: [], A0, (A1 ++ ([] ++ ([] ++ A4))), rfl, (perm_cnt fun a => by have e := hp.count_eq a; simp only [List.count_append, List.count_nil] at *; omega), h0, ⟨[.slice b1 x.shares.length c1], .int .i64 x.at' :: .int .i64 x.n :: .slice b4 x.gots.length c4 :: [], A1, ([] ++ ([] ++ A4)), rfl, .refl _, h1, ⟨[.int .i64 x.at'], .int .i64 x.n :: .slice b4 x.gots.length c4 :: [], [], ([] ++ A4), rfl, .refl _, ⟨rfl, w2, rfl⟩, ⟨[.int .i64 x.n], [.slice b4 x.gots.length c4], [], A4, rfl, .refl _, ⟨rfl, w3, rfl⟩, h4⟩⟩⟩⟩
theorem opens_Cell : Opens prog gCell.toRp 54 := by
 intro H' enc w H sp hd fuel cs d ps hcov ht
 obtain ⟨h1, h2⟩ := trod_fields ty54_ok.1 ht
 obtain ⟨_, _, t0⟩ := h2 0 0 26 rfl
 obtain ⟨x0, r0⟩ := opens_Query _ _ H _ _ _ _ _ _ hcov t0
 rw [show prog.cellsOf 26 = 4 by kernel_rfl] at r0
 obtain ⟨_, _, t1⟩ := h2 1 4 27 rfl
 obtain ⟨x1, r1⟩ := (opens_sl ty27_ok.1 (by kernel_rfl) (by decide) (opens_fi ty3_ok.1)) _ _ H _ _ _ _ _ _ hcov t1
 rw [show prog.cellsOf 27 = 1 by kernel_rfl] at r1
 obtain ⟨_, _, t2⟩ := h2 2 5 3 rfl
 obtain ⟨x2, r2⟩ := (opens_fi ty3_ok.1) _ _ H _ _ _ _ _ _ hcov t2
 rw [show prog.cellsOf 3 = 1 by kernel_rfl] at r2
 obtain ⟨_, _, t3⟩ := h2 3 6 3 rfl
 obtain ⟨x3, r3⟩ := (opens_fi ty3_ok.1) _ _ H _ _ _ _ _ _ hcov t3
 rw [show prog.cellsOf 3 = 1 by kernel_rfl] at r3
 obtain ⟨_, _, t4⟩ := h2 4 7 52 rfl
 obtain ⟨x4, r4⟩ := (opens_sl ty52_ok.1 (by kernel_rfl) (by decide) opens_Got) _ _ H _ _ _ _ _ _ hcov t4
 rw [show prog.cellsOf 52 = 1 by kernel_rfl] at r4
 rw [show prog.cellsOf 54 = 8 by kernel_rfl] at h1
 have key : gCell.rd H ((cs.drop 0).take 8) ⟨x0, x1, x2, x3, x4⟩ := (pair_at (g := gQuery) (h := (SX.gPair (gSl 3 gI) (SX.gPair gI (SX.gPair gI (gSl 188 gGot))))) (off := 0) r0 (pair_at (g := (gSl 3 gI)) (h := (SX.gPair gI (SX.gPair gI (gSl 188 gGot)))) (off := 4) r1 (pair_at (g := gI) (h := (SX.gPair gI (gSl 188 gGot))) (off := 5) r2 (pair_at (g := gI) (h := (gSl 188 gGot)) (off := 6) r3 r4))))
 rw [List.drop_zero, List.take_of_length_le (by omega)] at key
 exact ⟨_, key⟩
theorem gCell_sz (x : Cell) : gCell.sz x = gQuery.sz x.query + (szL gI x.shares + (0 + (0 + (szL gGot x.gots)))) := rfl
theorem gCell_cntV (x : Cell) : gCell.cntV x = gQuery.cntV x.query + (cntL gI x.shares + (0 + (0 + (cntL gGot x.gots)))) := rfl
theorem gCell_markV (k : Int) (x : Cell) : gCell.markV k x = ⟨gQuery.markV (k) x.query, mkL gI (k + gQuery.cntV x.query) x.shares, x.at', x.n, mkL gGot (k + gQuery.cntV x.query + cntL gI x.shares) x.gots⟩ := by
 have h : gCell.markV k x = ⟨gQuery.markV (k) x.query, mkL gI ((k + ((gQuery.cntV x.query : Nat) : Int))) x.shares, x.at', x.n, mkL gGot (((((k + ((gQuery.cntV x.query : Nat) : Int)) + ((cntL gI x.shares : Nat) : Int)) + ((0 : Nat) : Int)) + ((0 : Nat) : Int))) x.gots⟩ := rfl
 rw [h] <;> simp
theorem Cell.eq_iff {x y : Cell} : x = y ↔ x.query = y.query ∧ x.shares = y.shares ∧ x.at' = y.at' ∧ x.n = y.n ∧ x.gots = y.gots := by cases x; cases y; simp
structure Mail where
 peer : Int
 letter : Letter
deriving DecidableEq, Inhabited
theorem Mail.eq_iff {x y : Mail} : x = y ↔ x.peer = y.peer ∧ x.letter = y.letter := by cases x; cases y; simp
structure Work where
 begun : Bool
 query : Query
 shares : List Int
 count : Int
 seen : List Walk
 num : Int
 black : Bool
 holds : Bool
 tokNum : Int
 tokBlack : Bool
 walked : Bool
 cell : Cell
 told : Bool
 waits : List Mail
deriving DecidableEq, Inhabited
theorem Work.eq_iff {x y : Work} : x = y ↔ x.begun = y.begun ∧ x.query = y.query ∧ x.shares = y.shares ∧ x.count = y.count ∧ x.seen = y.seen ∧ x.num = y.num ∧ x.black = y.black ∧ x.holds = y.holds ∧ x.tokNum = y.tokNum ∧ x.tokBlack = y.tokBlack ∧ x.walked = y.walked ∧ x.cell = y.cell ∧ x.told = y.told ∧ x.waits = y.waits := by cases x; cases y; simp
structure Ask where
 on : Bool
 query : Query
 shares : List Int
 count : Int
 results : List Got
 over : Bool
 answer : Bag
deriving DecidableEq, Inhabited
theorem Ask.eq_iff {x y : Ask} : x = y ↔ x.on = y.on ∧ x.query = y.query ∧ x.shares = y.shares ∧ x.count = y.count ∧ x.results = y.results ∧ x.over = y.over ∧ x.answer = y.answer := by cases x; cases y; simp
structure Node where
 id : Int
 up : Bool
 disk : Disk
 epoch : Int
 joined : Bool
 links : List Link
 work : Work
 ask : Ask
deriving DecidableEq, Inhabited
theorem Node.eq_iff {x y : Node} : x = y ↔ x.id = y.id ∧ x.up = y.up ∧ x.disk = y.disk ∧ x.epoch = y.epoch ∧ x.joined = y.joined ∧ x.links = y.links ∧ x.work = y.work ∧ x.ask = y.ask := by cases x; cases y; simp
structure Cluster where
 query : Query
 nodes : List Node
 net : List ByteArray
 codes : List Int
 replies : List Bag
deriving DecidableEq, Inhabited
theorem Cluster.eq_iff {x y : Cluster} : x = y ↔ x.query = y.query ∧ x.nodes = y.nodes ∧ x.net = y.net ∧ x.codes = y.codes ∧ x.replies = y.replies := by cases x; cases y; simp
end
section
theorem szIntS_ct (b : Option Addr) (m c : Nat) (xs : List Int) (left : Int) (h0 : 0 ≤ left) (h1 : left ≤ 1048576) :
  Ct prog 59 [.slice b m c, .int .i64 left] [] (fun H => (gSl 3 gI).rd H [.slice b m c] xs) (fun v A => (∃ r : Int, v = .int .i64 r ∧ ((r = -1 ∧ left < (szL gI xs : Int)) ∨ (r = left - (szL gI xs : Int) ∧ (szL gI xs : Int) ≤ left))) ∧ A = []) := by
 refine Ct.intro0 G_ok func59 rfl rfl rfl fun E H hp => ?_
 obtain ⟨rfl, hcl, hl⟩ := sl_len hp
 have hq := szL_eq gI xs
 have hz := szE_zero gI (fun _ => rfl) xs
 refine ⟨fun q0 => ?_, fun q0 => ?_⟩
 ·simp at q0
  simp (disch := omega) only [wrap_of] at q0
  exact ⟨[], ⟨⟨-1, rfl, .inl ⟨rfl, woI⟩⟩, rfl⟩, .mem (by simp)⟩
 ·simp at q0
  simp (disch := omega) only [wrap_of] at q0
  exact ⟨[], ⟨⟨_, rfl, .inr ⟨woI, by omega⟩⟩, rfl⟩, .mem (by simp)⟩
theorem toIntS_ct (b : Option Addr) (m c : Nat) (xs : List Int) (hx : szL gI xs ≤ 1048576) :
  Ct prog 13 [.slice b m c] [] (fun H => (gSl 3 gI).rd H [.slice b m c] xs) (fun v A => ∃ b c, v = .slice b xs.length c ∧ (gSl 3 gI).ow [.slice b xs.length c] xs A) := by
 refine Ct.intro0 G_ok func13 rfl rfl rfl fun E H hp => ?_
 obtain ⟨rfl, hcl, hl⟩ := sl_len hp
 have hls := len_szL gI xs
 refine VCmake.intro ?_ ?_ ?_ ?_ fun x0 => ?_
 ·omega
 ·omega
 ·omega
 ·omega
 apply loop_mod (α := (Nat) × (Hp)) G_ok [8, 9, 10, 11, 14, 15, 16, 17, 18, 19, 20, 12, 13, 4] (fun z => [(4, .v (.int .i64 z.1))]) (fun z => []) (fun z => [z.2, H]) (fun z => xs.length - z.1) (fun z => z.1 ≤ xs.length ∧ (gSl 3 gI).ow [.slice (some ⟨x0, 0, none⟩) xs.length xs.length] (xs.take z.1 ++ List.replicate (xs.length - z.1) 0) z.2) ((0, _))
 ·exact frI
 ·exact trivial
 ·try dsimp only
  exact ⟨by omega, by simpa using gmake (g := gI) (T := 3) (b := x0) (gI_ow (by unfold okI; decide)) (Nat.le_refl xs.length) (by omega)⟩
 ·exact .refl _
 rintro ⟨k, A⟩ hI
 try dsimp only at hI
 obtain ⟨hk, oA⟩ := hI
 try dsimp only
 refine ⟨fun q1 => ?_, fun q1 => ?_⟩
 ·simp at q1
  refine idx_rd hp ?_ ?_ fun b2 o2 hb2 => ?_
  ·omega
  ·omega
  refine load_allN 0 (k) rfl hp ?_ ?_ hb2 rfl (mem_at 1 rfl) fun l3 hl3 => ?_
  ·omega
  ·omega
  obtain ⟨rfl, hw3⟩ := hl3; simp only [flStr, flInt, okI] at hw3
  refine idx_rd (Gt.owrd _ oA) ?_ ?_ fun b4 o4 hb4 => ?_
  ·omega
  ·simp; omega
  refine gstoreN (Fld.id _) 0 (k) 0 rfl rfl oA ?_ ?_ hb4 rfl gI_pl _ (gI_ow ?_) fun A5 o5 => ?_
  ·omega
  ·simp; omega
  ·trivial
  apply loop_stepA (k + 1, _)
  ·exact .refl _
  ·exact frI
  ·exact trivial
  ·try dsimp only
   exact ⟨by omega, by rw [← take_step xs k 0 (by omega)] ; assumption⟩
  try dsimp only
  omega
 ·simp at q1
  obtain rfl : k = xs.length := by omega
  rw [List.take_length, Nat.sub_self, List.replicate_zero, List.append_nil] at oA
  exact ⟨_, ⟨_, _, rfl, oA⟩, rlA⟩
theorem eqIntS_ct (b1 : Option Addr) (m1 c1 : Nat) (b2 : Option Addr) (m2 c2 : Nat) (xs ys : List Int) :
  Ct prog 18 [.slice b1 m1 c1, .slice b2 m2 c2] [] (fun H => (gSl 3 gI).rd H [.slice b1 m1 c1] xs ∧ (gSl 3 gI).rd H [.slice b2 m2 c2] ys) (fun v A => v = .bool (decide (xs = ys)) ∧ A = []) := by
 refine Ct.intro0 G_ok func18 rfl rfl rfl fun E H hp => ?_
 obtain ⟨hp1, hp2⟩ := hp
 obtain ⟨rfl, hc1, hl1⟩ := sl_len hp1
 obtain ⟨rfl, hc2, hl2⟩ := sl_len hp2
 refine ⟨fun q0 => ?_, fun q0 => ?_⟩
 ·simp at q0
  exact ⟨[], ⟨by rw [decide_eq_false (fun e => by subst e; omega)], rfl⟩, .mem (by simp)⟩
 ·simp at q0
  apply loop_mod (α := (Nat)) G_ok [11, 12, 13, 14, 17, 18, 19, 20, 21, 22, 23, 24, 25, 4, 15, 16, 5] (fun z => [(5, .v (.int .i64 z))]) (fun z => []) (fun z => [H]) (fun z => xs.length - z) (fun z => z ≤ xs.length ∧ xs.take z = ys.take z) (0)
  ·exact frI
  ·exact trivial
  ·exact ⟨by omega, by simp⟩
  ·exact .refl _
  rintro k hI
  obtain ⟨hk, he⟩ : k ≤ xs.length ∧ xs.take k = ys.take k := hI
  try dsimp only
  refine ⟨fun q1 => ?_, fun q1 => ?_⟩
  ·simp at q1
   refine draw G_ok mixed none (.q 0 (.q 1 (.q 2 (.q 3 (.q 4 (.q 5 (.q 6 (.q 7 (.q 8 (.nil)))))))))) (by decide +kernel) ?_
   refine idx_rd hp1 ?_ ?_ fun b2 o2 hb2 => ?_
   ·omega
   ·omega
   refine load_allN 0 (k) rfl hp1 ?_ ?_ hb2 rfl (mem_at 0 rfl) fun l3 hl3 => ?_
   ·omega
   ·omega
   obtain ⟨rfl, hw3⟩ := hl3; simp only [flStr, flInt, okI] at hw3
   refine idx_rd hp2 ?_ ?_ fun b4 o4 hb4 => ?_
   ·omega
   ·omega
   refine load_allN 0 (k) rfl hp2 ?_ ?_ hb4 rfl (mem_at 0 rfl) fun l5 hl5 => ?_
   ·omega
   ·omega
   obtain ⟨rfl, hw5⟩ := hl5; simp only [flStr, flInt, okI] at hw5
   refine ⟨fun q6 => ?_, fun q6 => ?_⟩
   ·simp at q6
    exact ⟨[], ⟨by rw [decide_eq_false (fun e => by subst e; omega)], rfl⟩, .mem (by simp)⟩
   ·simp at q6
    apply loop_stepA (k + 1)
    ·exact .refl _
    ·exact frI
    ·exact trivial
    ·exact ⟨by omega, eq_step 0 (by omega) he (by omega) (by simpa using ‹_›)⟩
    omega
  ·simp at q1
   exact ⟨[], ⟨by rw [decide_eq_true]; rw [← List.take_length (l := xs), ← List.take_length (l := ys), ← (by omega : xs.length = ys.length), show xs.length = k by omega]; exact he, rfl⟩, .mem (by simp)⟩
theorem szStringS_ct (b : Option Addr) (m c : Nat) (xs : List ByteArray) (left : Int) (h0 : 0 ≤ left) (h1 : left ≤ 1048576) :
  Ct prog 56 [.slice b m c, .int .i64 left] [] (fun H => (gSl 9 gS).rd H [.slice b m c] xs) (fun v A => (∃ r : Int, v = .int .i64 r ∧ ((r = -1 ∧ left < (szL gS xs : Int)) ∨ (r = left - (szL gS xs : Int) ∧ (szL gS xs : Int) ≤ left))) ∧ A = []) := by
 refine Ct.intro0 G_ok func56 rfl rfl rfl fun E H hp => ?_
 obtain ⟨rfl, hcl, hl⟩ := sl_len hp
 have hq := szL_eq gS xs
 have ht := List.take_length (l := xs)
 refine ⟨fun q0 => ?_, fun q0 => ?_⟩
 ·simp at q0
  simp (disch := omega) only [wrap_of] at q0
  exact ⟨[], ⟨⟨-1, rfl, .inl ⟨rfl, woI⟩⟩, rfl⟩, .mem (by simp)⟩
 ·simp at q0
  simp (disch := omega) only [wrap_of] at q0
  apply loop_mod (α := (Nat) × (Int)) G_ok [12, 13, 14, 15, 18, 19, 20, 21, 22, 23, 24, 1, 25, 26, 4, 16, 17, 5] (fun z => [(5, .v (.int .i64 z.1)), (1, .v (.int .i64 z.2))]) (fun z => []) (fun z => [H]) (fun z => xs.length - z.1) (fun z => z.1 ≤ xs.length ∧ z.2 = left - xs.length - szE gS (xs.take z.1) ∧ 0 ≤ z.2) ((0, left - xs.length))
  ·repeat' (first | exact trivial | refine ⟨⟨_, rfl, by first | rfl | exact inc_eq _ (by omega) | (refine sl_eq ?_; simp; done) | (simp (disch := omega) only [wrap_of]), by first | exact trivial | simp [SV.ok]⟩, ?_⟩)
  ·exact trivial
  ·try dsimp only
   exact ⟨by omega, by simp [szE], by omega⟩
  ·exact .refl _
  rintro ⟨k, lf⟩ hI
  try dsimp only at hI
  obtain ⟨hk, hlf, hnn⟩ := hI
  try dsimp only
  refine ⟨fun q1 => ?_, fun q1 => ?_⟩
  ·simp at q1
   have hs := szE_step gS xs k ByteArray.empty (by omega)
   have hs2 := szE_le gS xs (k + 1)
   refine idx_rd hp ?_ ?_ fun b2 o2 hb2 => ?_
   ·omega
   ·omega
   refine load_allN ByteArray.empty (k) rfl hp ?_ ?_ hb2 rfl (mem_at 0 rfl) fun l3 hl3 => ?_
   ·omega
   ·omega
   have hss : gS.sz (xs[k]?.getD ByteArray.empty) = (xs[k]?.getD ByteArray.empty).size := rfl
   obtain ⟨rfl, hw3⟩ := hl3; simp only [flStr, flInt, okI] at hw3
   refine ⟨fun q4 => ?_, fun q4 => ?_⟩
   ·simp at q4
    simp (disch := omega) only [wrap_of] at q4
    exact ⟨[], ⟨⟨-1, rfl, .inl ⟨rfl, woI⟩⟩, rfl⟩, .mem (by simp)⟩
   ·simp at q4
    simp (disch := omega) only [wrap_of] at q4
    apply loop_stepA (k + 1, lf - ((xs[k]?.getD ByteArray.empty).size : Int))
    ·exact .refl _
    ·repeat' (first | exact trivial | refine ⟨⟨_, rfl, by first | rfl | exact inc_eq _ (by omega) | (refine sl_eq ?_; simp; done) | (simp (disch := omega) only [wrap_of]), by first | exact trivial | simp [SV.ok]⟩, ?_⟩)
    ·exact trivial
    ·try dsimp only
     ((try simp (disch := omega) only [wrap_of] at *); refine ⟨by omega, by omega, by omega⟩)
    try dsimp only
    omega
  ·simp at q1
   obtain rfl : k = xs.length := by omega
   rw [List.take_length] at hlf
   exact ⟨[], ⟨⟨_, rfl, .inr ⟨woI, by omega⟩⟩, rfl⟩, .mem (by simp)⟩
theorem toStringS_ct (b : Option Addr) (m c : Nat) (xs : List ByteArray) (hx : szL gS xs ≤ 1048576) :
  Ct prog 69 [.slice b m c] [] (fun H => (gSl 9 gS).rd H [.slice b m c] xs) (fun v A => ∃ b c, v = .slice b xs.length c ∧ (gSl 9 gS).ow [.slice b xs.length c] xs A) := by
 refine Ct.intro0 G_ok func69 rfl rfl rfl fun E H hp => ?_
 obtain ⟨rfl, hcl, hl⟩ := sl_len hp
 have hls := len_szL gS xs
 refine VCmake.intro ?_ ?_ ?_ ?_ fun x0 => ?_
 ·omega
 ·omega
 ·omega
 ·omega
 apply loop_mod (α := (Nat) × (Hp)) G_ok [8, 9, 10, 11, 14, 15, 16, 17, 18, 19, 20, 12, 13, 4] (fun z => [(4, .v (.int .i64 z.1))]) (fun z => []) (fun z => [z.2, H]) (fun z => xs.length - z.1) (fun z => z.1 ≤ xs.length ∧ (gSl 9 gS).ow [.slice (some ⟨x0, 0, none⟩) xs.length xs.length] (xs.take z.1 ++ List.replicate (xs.length - z.1) ByteArray.empty) z.2) ((0, _))
 ·exact frI
 ·exact trivial
 ·try dsimp only
  exact ⟨by omega, by simpa using gmake (g := gS) (T := 9) (b := x0) (gS_ow (by decide)) (Nat.le_refl xs.length) (by omega)⟩
 ·exact .refl _
 rintro ⟨k, A⟩ hI
 try dsimp only at hI
 obtain ⟨hk, oA⟩ := hI
 try dsimp only
 refine ⟨fun q1 => ?_, fun q1 => ?_⟩
 ·simp at q1
  refine idx_rd hp ?_ ?_ fun b2 o2 hb2 => ?_
  ·omega
  ·omega
  refine load_allN ByteArray.empty (k) rfl hp ?_ ?_ hb2 rfl (mem_at 1 rfl) fun l3 hl3 => ?_
  ·omega
  ·omega
  obtain ⟨rfl, hw3⟩ := hl3; simp only [flStr, flInt, okI] at hw3
  refine idx_rd (Gt.owrd _ oA) ?_ ?_ fun b4 o4 hb4 => ?_
  ·omega
  ·simp; omega
  refine gstoreN (Fld.id _) ByteArray.empty (k) 0 rfl rfl oA ?_ ?_ hb4 rfl fl_pl _ (gS_ow ?_) fun A5 o5 => ?_
  ·omega
  ·simp; omega
  ·trivial
  apply loop_stepA (k + 1, _)
  ·exact .refl _
  ·exact frI
  ·exact trivial
  ·try dsimp only
   exact ⟨by omega, by rw [← take_step xs k ByteArray.empty (by omega)] ; assumption⟩
  try dsimp only
  omega
 ·simp at q1
  obtain rfl : k = xs.length := by omega
  rw [List.take_length, Nat.sub_self, List.replicate_zero, List.append_nil] at oA
  exact ⟨_, ⟨_, _, rfl, oA⟩, rlA⟩
theorem eqStringS_ct (b1 : Option Addr) (m1 c1 : Nat) (b2 : Option Addr) (m2 c2 : Nat) (xs ys : List ByteArray) :
  Ct prog 82 [.slice b1 m1 c1, .slice b2 m2 c2] [] (fun H => (gSl 9 gS).rd H [.slice b1 m1 c1] xs ∧ (gSl 9 gS).rd H [.slice b2 m2 c2] ys) (fun v A => v = .bool (decide (xs = ys)) ∧ A = []) := by
 refine Ct.intro0 G_ok func82 rfl rfl rfl fun E H hp => ?_
 obtain ⟨hp1, hp2⟩ := hp
 obtain ⟨rfl, hc1, hl1⟩ := sl_len hp1
 obtain ⟨rfl, hc2, hl2⟩ := sl_len hp2
 refine ⟨fun q0 => ?_, fun q0 => ?_⟩
 ·simp at q0
  exact ⟨[], ⟨by rw [decide_eq_false (fun e => by subst e; omega)], rfl⟩, .mem (by simp)⟩
 ·simp at q0
  apply loop_mod (α := (Nat)) G_ok [11, 12, 13, 14, 17, 18, 19, 20, 21, 22, 23, 24, 25, 4, 15, 16, 5] (fun z => [(5, .v (.int .i64 z))]) (fun z => []) (fun z => [H]) (fun z => xs.length - z) (fun z => z ≤ xs.length ∧ xs.take z = ys.take z) (0)
  ·exact frI
  ·exact trivial
  ·exact ⟨by omega, by simp⟩
  ·exact .refl _
  rintro k hI
  obtain ⟨hk, he⟩ : k ≤ xs.length ∧ xs.take k = ys.take k := hI
  try dsimp only
  refine ⟨fun q1 => ?_, fun q1 => ?_⟩
  ·simp at q1
   refine draw G_ok mixed none (.q 0 (.q 1 (.q 2 (.q 3 (.q 4 (.q 5 (.q 6 (.q 7 (.q 8 (.nil)))))))))) (by decide +kernel) ?_
   refine idx_rd hp1 ?_ ?_ fun b2 o2 hb2 => ?_
   ·omega
   ·omega
   refine load_allN ByteArray.empty (k) rfl hp1 ?_ ?_ hb2 rfl (mem_at 0 rfl) fun l3 hl3 => ?_
   ·omega
   ·omega
   obtain ⟨rfl, hw3⟩ := hl3; simp only [flStr, flInt, okI] at hw3
   refine idx_rd hp2 ?_ ?_ fun b4 o4 hb4 => ?_
   ·omega
   ·omega
   refine load_allN ByteArray.empty (k) rfl hp2 ?_ ?_ hb4 rfl (mem_at 0 rfl) fun l5 hl5 => ?_
   ·omega
   ·omega
   obtain ⟨rfl, hw5⟩ := hl5; simp only [flStr, flInt, okI] at hw5
   refine ⟨fun q6 => ?_, fun q6 => ?_⟩
   ·simp at q6
    simp only [str_inj, u8_inj, u8_wrap] at q6
    exact ⟨[], ⟨by rw [decide_eq_false (fun e => by subst e; simp at *)], rfl⟩, .mem (by simp)⟩
   ·simp at q6
    simp only [str_inj, u8_inj, u8_wrap] at q6
    apply loop_stepA (k + 1)
    ·exact .refl _
    ·exact frI
    ·exact trivial
    ·exact ⟨by omega, eq_step ByteArray.empty (by omega) he (by omega) (by simpa using ‹_›)⟩
    omega
  ·simp at q1
   exact ⟨[], ⟨by rw [decide_eq_true]; rw [← List.take_length (l := xs), ← List.take_length (l := ys), ← (by omega : xs.length = ys.length), show xs.length = k by omega]; exact he, rfl⟩, .mem (by simp)⟩
theorem szItem_ct (l : List Value) (x : Item) (left : Int) (h0 : 0 ≤ left) (h1 : left ≤ 1048576) :
  Ct prog 345 [.agg ⟨l⟩, .int .i64 left] [] (fun H => gItem.rd H l x) (fun v A => (∃ r : Int, v = .int .i64 r ∧ ((r = -1 ∧ left < (gItem.sz x : Int)) ∨ (r = left - (gItem.sz x : Int) ∧ (gItem.sz x : Int) ≤ left))) ∧ A = []) := by
 refine Ct.intro0 G_ok func345 rfl rfl rfl fun E H hp => ?_
 obtain ⟨b0, c0, rfl, h0, w1⟩ := gItem_rd.1 hp
 have hz := gItem_sz x
 refine ⟨fun x0 => ?_⟩
 refine call_q (szIntS_ct _ _ _ (x.row) _ ?_ ?_) (Rp.mono _ (mem_at 0 rfl) h0) ?_
 ·trivial
 ·trivial
 rintro _ ⟨r1, rfl, hr1⟩
 refine ⟨fun q2 => ?_, fun q2 => ?_⟩
 ·simp at q2
  exact ⟨[], ⟨⟨-1, rfl, .inl ⟨rfl, woI⟩⟩, rfl⟩, .mem (by simp)⟩
 ·simp at q2
  exact ⟨[], ⟨⟨_, rfl, .inr ⟨woI, by omega⟩⟩, rfl⟩, .mem (by simp)⟩
theorem toItem_ct (l : List Value) (x : Item) (hx : gItem.sz x ≤ 1048576) :
  Ct prog 352 [.agg ⟨l⟩] [] (fun H => gItem.rd H l x) (fun v A => ∃ l, v = .agg ⟨l⟩ ∧ gItem.ow l x A) := by
 refine Ct.intro0 G_ok func352 rfl rfl rfl fun E H hp => ?_
 obtain ⟨b0, c0, rfl, h0, w1⟩ := gItem_rd.1 hp
 have hz := gItem_sz x
 refine ⟨fun x0 => ?_⟩
 refine ⟨fun x1 => ?_⟩
 refine ⟨fun x2 => ?_⟩
 refine call_new (toIntS_ct _ _ _ (x.row) ?_) (Rp.mono _ (mem_at 0 rfl) h0) ?_
 ·trivial
 rintro v3 A3 o3
 obtain ⟨b3, c3, rfl, o3⟩ := o3
 exact ⟨_, ⟨_, rfl, gItem_ow.2 ⟨_, _, _, rfl, .refl _, by assumption, by assumption⟩⟩, rlA⟩
theorem eqItem_ct (l1 l2 : List Value) (x y : Item) :
  Ct prog 170 [.agg ⟨l1⟩, .agg ⟨l2⟩] [] (fun H => gItem.rd H l1 x ∧ gItem.rd H l2 y) (fun v A => v = .bool (decide (x = y)) ∧ A = []) := by
 refine Ct.intro0 G_ok func170 rfl rfl rfl fun E H hp => ?_
 obtain ⟨hp1, hp2⟩ := hp
 obtain ⟨b0p, c0p, rfl, h0p, w1p⟩ := gItem_rd.1 hp1
 obtain ⟨b0q, c0q, rfl, h0q, w1q⟩ := gItem_rd.1 hp2
 refine ⟨fun x0 => ?_⟩
 refine ⟨fun x1 => ?_⟩
 refine call_val (eqIntS_ct _ _ _ _ _ _ (x.row) (y.row)) ⟨(Rp.mono _ (mem_at 0 rfl) h0p), (Rp.mono _ (mem_at 0 rfl) h0q)⟩ ?_
 rintro _ rfl
 refine ⟨fun q3 => ?_, fun q3 => ?_⟩
 ·simp at q3
  exact ⟨[], ⟨by rw [decide_eq_false (fun e => by subst e; simp at *)], rfl⟩, .mem (by simp)⟩
 ·simp at q3
  refine ⟨fun q4 => ?_, fun q4 => ?_⟩
  ·simp at q4
   exact ⟨[], ⟨by rw [decide_eq_false (fun e => by subst e; simp at *)], rfl⟩, .mem (by simp)⟩
  ·simp at q4
   exact ⟨[], ⟨by rw [decide_eq_true (Item.eq_iff.2 (by simp_all))], rfl⟩, .mem (by simp)⟩
theorem szItemS_ct (b : Option Addr) (m c : Nat) (xs : List Item) (left : Int) (h0 : 0 ≤ left) (h1 : left ≤ 1048576) :
  Ct prog 268 [.slice b m c, .int .i64 left] [] (fun H => (gSl 218 gItem).rd H [.slice b m c] xs) (fun v A => (∃ r : Int, v = .int .i64 r ∧ ((r = -1 ∧ left < (szL gItem xs : Int)) ∨ (r = left - (szL gItem xs : Int) ∧ (szL gItem xs : Int) ≤ left))) ∧ A = []) := by
 refine Ct.intro0 G_ok func268 rfl rfl rfl fun E H hp => ?_
 obtain ⟨rfl, hcl, hl⟩ := sl_len hp
 have hq := szL_eq gItem xs
 have ht := List.take_length (l := xs)
 refine ⟨fun q0 => ?_, fun q0 => ?_⟩
 ·simp at q0
  simp (disch := omega) only [wrap_of] at q0
  exact ⟨[], ⟨⟨-1, rfl, .inl ⟨rfl, woI⟩⟩, rfl⟩, .mem (by simp)⟩
 ·simp at q0
  simp (disch := omega) only [wrap_of] at q0
  apply loop_mod (α := (Nat) × (Int)) G_ok [12, 13, 14, 15, 18, 19, 20, 21, 22, 23, 1, 24, 25, 4, 16, 17, 5] (fun z => [(5, .v (.int .i64 z.1)), (1, .v (.int .i64 z.2))]) (fun z => []) (fun z => [H]) (fun z => xs.length - z.1) (fun z => z.1 ≤ xs.length ∧ z.2 = left - xs.length - szE gItem (xs.take z.1) ∧ 0 ≤ z.2) ((0, left - xs.length))
  ·repeat' (first | exact trivial | refine ⟨⟨_, rfl, by first | rfl | exact inc_eq _ (by omega) | (refine sl_eq ?_; simp; done) | (simp (disch := omega) only [wrap_of]), by first | exact trivial | simp [SV.ok]⟩, ?_⟩)
  ·exact trivial
  ·try dsimp only
   exact ⟨by omega, by simp [szE], by omega⟩
  ·exact .refl _
  rintro ⟨k, lf⟩ hI
  try dsimp only at hI
  obtain ⟨hk, hlf, hnn⟩ := hI
  try dsimp only
  refine ⟨fun q1 => ?_, fun q1 => ?_⟩
  ·simp at q1
   have hs := szE_step gItem xs k default (by omega)
   have hs2 := szE_le gItem xs (k + 1)
   refine idx_rd hp ?_ ?_ fun b2 o2 hb2 => ?_
   ·omega
   ·omega
   refine load_allN default (k) rfl hp ?_ ?_ hb2 rfl (mem_at 0 rfl) fun l3 hl3 => ?_
   ·omega
   ·omega
   obtain ⟨b0x3, c0x3, rfl, h0x3, w1x3⟩ := gItem_rd.1 hl3
   refine call_q (szItem_ct _ (xs[k]?.getD default) _ ?_ ?_) (Rp.mono _ (mem_at 0 rfl) hl3) ?_
   ·trivial
   ·omega
   rintro _ ⟨r4, rfl, hr4⟩
   refine ⟨fun q5 => ?_, fun q5 => ?_⟩
   ·simp at q5
    exact ⟨[], ⟨⟨-1, rfl, .inl ⟨rfl, woI⟩⟩, rfl⟩, .mem (by simp)⟩
   ·simp at q5
    apply loop_stepA (k + 1, _)
    ·exact .refl _
    ·repeat' (first | exact trivial | refine ⟨⟨_, rfl, by first | rfl | exact inc_eq _ (by omega) | (refine sl_eq ?_; simp; done) | (simp (disch := omega) only [wrap_of]), by first | exact trivial | simp [SV.ok]⟩, ?_⟩)
    ·exact trivial
    ·try dsimp only
     ((try simp (disch := omega) only [wrap_of] at *); refine ⟨by omega, by omega, by omega⟩)
    try dsimp only
    omega
  ·simp at q1
   obtain rfl : k = xs.length := by omega
   rw [List.take_length] at hlf
   exact ⟨[], ⟨⟨_, rfl, .inr ⟨woI, by omega⟩⟩, rfl⟩, .mem (by simp)⟩
theorem toItemS_ct (b : Option Addr) (m c : Nat) (xs : List Item) (hx : szL gItem xs ≤ 1048576) :
  Ct prog 279 [.slice b m c] [] (fun H => (gSl 218 gItem).rd H [.slice b m c] xs) (fun v A => ∃ b c, v = .slice b xs.length c ∧ (gSl 218 gItem).ow [.slice b xs.length c] xs A) := by
 refine Ct.intro0 G_ok func279 rfl rfl rfl fun E H hp => ?_
 obtain ⟨rfl, hcl, hl⟩ := sl_len hp
 have hls := len_szL gItem xs
 have hq := szL_eq gItem xs
 refine VCmake.intro ?_ ?_ ?_ ?_ fun x0 => ?_
 ·omega
 ·omega
 ·omega
 ·omega
 apply loop_mod (α := (Nat) × (Hp)) G_ok [8, 9, 10, 11, 14, 15, 16, 17, 18, 19, 20, 21, 12, 13, 4] (fun z => [(4, .v (.int .i64 z.1))]) (fun z => []) (fun z => [z.2, H]) (fun z => xs.length - z.1) (fun z => z.1 ≤ xs.length ∧ (gSl 218 gItem).ow [.slice (some ⟨x0, 0, none⟩) xs.length xs.length] (xs.take z.1 ++ List.replicate (xs.length - z.1) zItem) z.2) ((0, _))
 ·exact frI
 ·exact trivial
 ·try dsimp only
  exact ⟨by omega, by simpa using gmake (g := gItem) (T := 218) (b := x0) (zItem_ow) (Nat.le_refl xs.length) (by omega)⟩
 ·exact .refl _
 rintro ⟨k, A⟩ hI
 try dsimp only at hI
 obtain ⟨hk, oA⟩ := hI
 try dsimp only
 refine ⟨fun q1 => ?_, fun q1 => ?_⟩
 ·simp at q1
  have hs := szE_step gItem xs k default (by omega)
  have hs2 := szE_le gItem xs (k + 1)
  refine idx_rd hp ?_ ?_ fun b2 o2 hb2 => ?_
  ·omega
  ·omega
  refine load_allN default (k) rfl hp ?_ ?_ hb2 rfl (mem_at 1 rfl) fun l3 hl3 => ?_
  ·omega
  ·omega
  obtain ⟨b0x3, c0x3, rfl, h0x3, w1x3⟩ := gItem_rd.1 hl3
  refine call_new (toItem_ct _ (xs[k]?.getD default) ?_) (Rp.mono _ (mem_at 1 rfl) hl3) ?_
  ·omega
  rintro v4 A4 o4
  obtain ⟨l4, rfl, o4⟩ := o4
  have r4 := Gt.owrd _ o4
  obtain ⟨b0x4, c0x4, rfl, h0x4, w1x4⟩ := gItem_rd.1 r4
  refine idx_rd (Gt.owrd _ oA) ?_ ?_ fun b5 o5 hb5 => ?_
  ·omega
  ·simp; omega
  refine gstore1N (k) (A) (A4) [H] rlA rfl oA ?_ ?_ hb5 rfl _ o4 fun A6 o6 => ?_
  ·omega
  ·simp; omega
  apply loop_stepA (k + 1, _)
  ·exact .refl _
  ·exact frI
  ·exact trivial
  ·try dsimp only
   exact ⟨by omega, by rw [← take_stepz xs k default zItem (by omega)] ; assumption⟩
  try dsimp only
  omega
 ·simp at q1
  obtain rfl : k = xs.length := by omega
  rw [List.take_length, Nat.sub_self, List.replicate_zero, List.append_nil] at oA
  exact ⟨_, ⟨_, _, rfl, oA⟩, rlA⟩
theorem eqItemS_ct (b1 : Option Addr) (m1 c1 : Nat) (b2 : Option Addr) (m2 c2 : Nat) (xs ys : List Item) :
  Ct prog 81 [.slice b1 m1 c1, .slice b2 m2 c2] [] (fun H => (gSl 218 gItem).rd H [.slice b1 m1 c1] xs ∧ (gSl 218 gItem).rd H [.slice b2 m2 c2] ys) (fun v A => v = .bool (decide (xs = ys)) ∧ A = []) := by
 refine Ct.intro0 G_ok func81 rfl rfl rfl fun E H hp => ?_
 obtain ⟨hp1, hp2⟩ := hp
 obtain ⟨rfl, hc1, hl1⟩ := sl_len hp1
 obtain ⟨rfl, hc2, hl2⟩ := sl_len hp2
 refine ⟨fun q0 => ?_, fun q0 => ?_⟩
 ·simp at q0
  exact ⟨[], ⟨by rw [decide_eq_false (fun e => by subst e; omega)], rfl⟩, .mem (by simp)⟩
 ·simp at q0
  apply loop_mod (α := (Nat)) G_ok [11, 12, 13, 14, 17, 18, 19, 20, 21, 22, 23, 24, 25, 26, 4, 15, 16, 5] (fun z => [(5, .v (.int .i64 z))]) (fun z => []) (fun z => [H]) (fun z => xs.length - z) (fun z => z ≤ xs.length ∧ xs.take z = ys.take z) (0)
  ·exact frI
  ·exact trivial
  ·exact ⟨by omega, by simp⟩
  ·exact .refl _
  rintro k hI
  obtain ⟨hk, he⟩ : k ≤ xs.length ∧ xs.take k = ys.take k := hI
  try dsimp only
  refine ⟨fun q1 => ?_, fun q1 => ?_⟩
  ·simp at q1
   refine draw G_ok mixed none (.q 0 (.q 1 (.q 2 (.q 3 (.q 4 (.q 5 (.q 6 (.q 7 (.f 8 (.q 9 (.nil))))))))))) (by decide +kernel) ?_
   refine idx_rd hp1 ?_ ?_ fun b2 o2 hb2 => ?_
   ·omega
   ·omega
   refine load_allN default (k) rfl hp1 ?_ ?_ hb2 rfl (mem_at 0 rfl) fun l3 hl3 => ?_
   ·omega
   ·omega
   obtain ⟨b0x3, c0x3, rfl, h0x3, w1x3⟩ := gItem_rd.1 hl3
   refine idx_rd hp2 ?_ ?_ fun b4 o4 hb4 => ?_
   ·omega
   ·omega
   refine load_allN default (k) rfl hp2 ?_ ?_ hb4 rfl (mem_at 0 rfl) fun l5 hl5 => ?_
   ·omega
   ·omega
   obtain ⟨b0x5, c0x5, rfl, h0x5, w1x5⟩ := gItem_rd.1 hl5
   refine call_val (eqItem_ct _ _ (xs[k]?.getD default) (ys[k]?.getD default)) ⟨(Rp.mono _ (mem_at 0 rfl) hl3), (Rp.mono _ (mem_at 0 rfl) hl5)⟩ ?_
   rintro _ rfl
   refine VC.intro ?_ ?_
   ·exact fun _ h => h
   refine ⟨fun q7 => ?_, fun q7 => ?_⟩
   ·simp at q7
    exact ⟨[], ⟨by rw [decide_eq_false (fun e => by subst e; simp at *)], rfl⟩, .mem (by simp)⟩
   ·simp at q7
    apply loop_stepA (k + 1)
    ·exact .refl _
    ·exact frI
    ·exact trivial
    ·exact ⟨by omega, eq_step default (by omega) he (by omega) (by simpa using ‹_›)⟩
    omega
  ·simp at q1
   exact ⟨[], ⟨by rw [decide_eq_true]; rw [← List.take_length (l := xs), ← List.take_length (l := ys), ← (by omega : xs.length = ys.length), show xs.length = k by omega]; exact he, rfl⟩, .mem (by simp)⟩
theorem szBag_ct (l : List Value) (x : Bag) (left : Int) (h0 : 0 ≤ left) (h1 : left ≤ 1048576) :
  Ct prog 187 [.agg ⟨l⟩, .int .i64 left] [] (fun H => gBag.rd H l x) (fun v A => (∃ r : Int, v = .int .i64 r ∧ ((r = -1 ∧ left < (gBag.sz x : Int)) ∨ (r = left - (gBag.sz x : Int) ∧ (gBag.sz x : Int) ≤ left))) ∧ A = []) := by
 refine Ct.intro0 G_ok func187 rfl rfl rfl fun E H hp => ?_
 obtain ⟨b0, c0, rfl, h0⟩ := gBag_rd.1 hp
 have hz := gBag_sz x
 refine ⟨fun x0 => ?_⟩
 refine call_q (szItemS_ct _ _ _ (x.items) _ ?_ ?_) (Rp.mono _ (mem_at 0 rfl) h0) ?_
 ·trivial
 ·trivial
 rintro _ ⟨r1, rfl, hr1⟩
 refine ⟨fun q2 => ?_, fun q2 => ?_⟩
 ·simp at q2
  exact ⟨[], ⟨⟨-1, rfl, .inl ⟨rfl, woI⟩⟩, rfl⟩, .mem (by simp)⟩
 ·simp at q2
  exact ⟨[], ⟨⟨_, rfl, .inr ⟨woI, by omega⟩⟩, rfl⟩, .mem (by simp)⟩
theorem toBag_ct (l : List Value) (x : Bag) (hx : gBag.sz x ≤ 1048576) :
  Ct prog 195 [.agg ⟨l⟩] [] (fun H => gBag.rd H l x) (fun v A => ∃ l, v = .agg ⟨l⟩ ∧ gBag.ow l x A) := by
 refine Ct.intro0 G_ok func195 rfl rfl rfl fun E H hp => ?_
 obtain ⟨b0, c0, rfl, h0⟩ := gBag_rd.1 hp
 have hz := gBag_sz x
 refine ⟨fun x0 => ?_⟩
 refine ⟨fun x1 => ?_⟩
 refine ⟨fun x2 => ?_⟩
 refine call_new (toItemS_ct _ _ _ (x.items) ?_) (Rp.mono _ (mem_at 0 rfl) h0) ?_
 ·trivial
 rintro v3 A3 o3
 obtain ⟨b3, c3, rfl, o3⟩ := o3
 exact ⟨_, ⟨_, rfl, gBag_ow.2 ⟨_, _, _, rfl, .refl _, by assumption⟩⟩, rlA⟩
theorem eqBag_ct (l1 l2 : List Value) (x y : Bag) :
  Ct prog 16 [.agg ⟨l1⟩, .agg ⟨l2⟩] [] (fun H => gBag.rd H l1 x ∧ gBag.rd H l2 y) (fun v A => v = .bool (decide (x = y)) ∧ A = []) := by
 refine Ct.intro0 G_ok func16 rfl rfl rfl fun E H hp => ?_
 obtain ⟨hp1, hp2⟩ := hp
 obtain ⟨b0p, c0p, rfl, h0p⟩ := gBag_rd.1 hp1
 obtain ⟨b0q, c0q, rfl, h0q⟩ := gBag_rd.1 hp2
 refine ⟨fun x0 => ?_⟩
 refine ⟨fun x1 => ?_⟩
 refine call_val (eqItemS_ct _ _ _ _ _ _ (x.items) (y.items)) ⟨(Rp.mono _ (mem_at 0 rfl) h0p), (Rp.mono _ (mem_at 0 rfl) h0q)⟩ ?_
 rintro _ rfl
 refine ⟨fun q3 => ?_, fun q3 => ?_⟩
 ·simp at q3
  exact ⟨[], ⟨by rw [decide_eq_false (fun e => by subst e; simp at *)], rfl⟩, .mem (by simp)⟩
 ·simp at q3
  exact ⟨[], ⟨by rw [decide_eq_true (Bag.eq_iff.2 (by simp_all))], rfl⟩, .mem (by simp)⟩
theorem szAtom_ct (l : List Value) (x : Atom) (left : Int) (h0 : 0 ≤ left) (h1 : left ≤ 1048576) :
  Ct prog 149 [.agg ⟨l⟩, .int .i64 left] [] (fun H => gAtom.rd H l x) (fun v A => (∃ r : Int, v = .int .i64 r ∧ ((r = -1 ∧ left < (gAtom.sz x : Int)) ∨ (r = left - (gAtom.sz x : Int) ∧ (gAtom.sz x : Int) ≤ left))) ∧ A = []) := by
 refine Ct.intro0 G_ok func149 rfl rfl rfl fun E H hp => ?_
 obtain ⟨rfl, w0, w1, w2⟩ := gAtom_rd.1 hp
 have hz := gAtom_sz x
 refine ⟨fun x0 => ?_⟩
 refine ⟨fun q1 => ?_, fun q1 => ?_⟩
 ·simp at q1
  simp (disch := omega) only [wrap_of] at q1
  exact ⟨[], ⟨⟨-1, rfl, .inl ⟨rfl, woI⟩⟩, rfl⟩, .mem (by simp)⟩
 ·simp at q1
  simp (disch := omega) only [wrap_of] at q1
  refine ⟨fun q2 => ?_, fun q2 => ?_⟩
  ·simp at q2
   simp (disch := omega) only [wrap_of] at q2
   exact ⟨[], ⟨⟨-1, rfl, .inl ⟨rfl, woI⟩⟩, rfl⟩, .mem (by simp)⟩
  ·simp at q2
   simp (disch := omega) only [wrap_of] at q2
   refine ⟨fun q3 => ?_, fun q3 => ?_⟩
   ·simp at q3
    simp (disch := omega) only [wrap_of] at q3
    exact ⟨[], ⟨⟨-1, rfl, .inl ⟨rfl, woI⟩⟩, rfl⟩, .mem (by simp)⟩
   ·simp at q3
    simp (disch := omega) only [wrap_of] at q3
    exact ⟨[], ⟨⟨_, rfl, .inr ⟨woI, by omega⟩⟩, rfl⟩, .mem (by simp)⟩
theorem toAtom_ct (l : List Value) (x : Atom) (hx : gAtom.sz x ≤ 1048576) :
  Ct prog 156 [.agg ⟨l⟩] [] (fun H => gAtom.rd H l x) (fun v A => ∃ l, v = .agg ⟨l⟩ ∧ gAtom.ow l x A) := by
 refine Ct.intro0 G_ok func156 rfl rfl rfl fun E H hp => ?_
 obtain ⟨rfl, w0, w1, w2⟩ := gAtom_rd.1 hp
 have hz := gAtom_sz x
 refine ⟨fun x0 => ?_⟩
 refine ⟨fun x1 => ?_⟩
 refine ⟨fun x2 => ?_⟩
 exact ⟨_, ⟨_, rfl, gAtom_ow.2 ⟨rfl, .refl _, by assumption, by assumption, by assumption⟩⟩, rlA⟩
theorem eqAtom_ct (l1 l2 : List Value) (x y : Atom) :
  Ct prog 171 [.agg ⟨l1⟩, .agg ⟨l2⟩] [] (fun H => gAtom.rd H l1 x ∧ gAtom.rd H l2 y) (fun v A => v = .bool (decide (x = y)) ∧ A = []) := by
 refine Ct.intro0 G_ok func171 rfl rfl rfl fun E H hp => ?_
 obtain ⟨hp1, hp2⟩ := hp
 obtain ⟨rfl, w0p, w1p, w2p⟩ := gAtom_rd.1 hp1
 obtain ⟨rfl, w0q, w1q, w2q⟩ := gAtom_rd.1 hp2
 refine ⟨fun x0 => ?_⟩
 refine ⟨fun x1 => ?_⟩
 refine ⟨fun q2 => ?_, fun q2 => ?_⟩
 ·simp at q2
  simp only [str_inj, u8_inj, u8_wrap] at q2
  exact ⟨[], ⟨by rw [decide_eq_false (fun e => by subst e; simp at *)], rfl⟩, .mem (by simp)⟩
 ·simp at q2
  simp only [str_inj, u8_inj, u8_wrap] at q2
  refine ⟨fun q3 => ?_, fun q3 => ?_⟩
  ·simp at q3
   simp only [str_inj, u8_inj, u8_wrap] at q3
   exact ⟨[], ⟨by rw [decide_eq_false (fun e => by subst e; simp at *)], rfl⟩, .mem (by simp)⟩
  ·simp at q3
   simp only [str_inj, u8_inj, u8_wrap] at q3
   refine ⟨fun q4 => ?_, fun q4 => ?_⟩
   ·simp at q4
    simp only [str_inj, u8_inj, u8_wrap] at q4
    exact ⟨[], ⟨by rw [decide_eq_false (fun e => by subst e; simp at *)], rfl⟩, .mem (by simp)⟩
   ·simp at q4
    simp only [str_inj, u8_inj, u8_wrap] at q4
    exact ⟨[], ⟨by rw [decide_eq_true (Atom.eq_iff.2 (by simp_all))], rfl⟩, .mem (by simp)⟩
theorem szFilter_ct (l : List Value) (x : Filter) (left : Int) (h0 : 0 ≤ left) (h1 : left ≤ 1048576) :
  Ct prog 150 [.agg ⟨l⟩, .int .i64 left] [] (fun H => gFilter.rd H l x) (fun v A => (∃ r : Int, v = .int .i64 r ∧ ((r = -1 ∧ left < (gFilter.sz x : Int)) ∨ (r = left - (gFilter.sz x : Int) ∧ (gFilter.sz x : Int) ≤ left))) ∧ A = []) := by
 refine Ct.intro0 G_ok func150 rfl rfl rfl fun E H hp => ?_
 obtain ⟨rfl, w0, w1, w2, w3⟩ := gFilter_rd.1 hp
 have hz := gFilter_sz x
 refine ⟨fun x0 => ?_⟩
 refine ⟨fun q1 => ?_, fun q1 => ?_⟩
 ·simp at q1
  simp (disch := omega) only [wrap_of] at q1
  exact ⟨[], ⟨⟨-1, rfl, .inl ⟨rfl, woI⟩⟩, rfl⟩, .mem (by simp)⟩
 ·simp at q1
  simp (disch := omega) only [wrap_of] at q1
  refine ⟨fun q2 => ?_, fun q2 => ?_⟩
  ·simp at q2
   simp (disch := omega) only [wrap_of] at q2
   exact ⟨[], ⟨⟨-1, rfl, .inl ⟨rfl, woI⟩⟩, rfl⟩, .mem (by simp)⟩
  ·simp at q2
   simp (disch := omega) only [wrap_of] at q2
   exact ⟨[], ⟨⟨_, rfl, .inr ⟨woI, by omega⟩⟩, rfl⟩, .mem (by simp)⟩
theorem toFilter_ct (l : List Value) (x : Filter) (hx : gFilter.sz x ≤ 1048576) :
  Ct prog 157 [.agg ⟨l⟩] [] (fun H => gFilter.rd H l x) (fun v A => ∃ l, v = .agg ⟨l⟩ ∧ gFilter.ow l x A) := by
 refine Ct.intro0 G_ok func157 rfl rfl rfl fun E H hp => ?_
 obtain ⟨rfl, w0, w1, w2, w3⟩ := gFilter_rd.1 hp
 have hz := gFilter_sz x
 refine ⟨fun x0 => ?_⟩
 refine ⟨fun x1 => ?_⟩
 refine ⟨fun x2 => ?_⟩
 exact ⟨_, ⟨_, rfl, gFilter_ow.2 ⟨rfl, .refl _, by assumption, by assumption, by assumption, by assumption⟩⟩, rlA⟩
theorem eqFilter_ct (l1 l2 : List Value) (x y : Filter) :
  Ct prog 172 [.agg ⟨l1⟩, .agg ⟨l2⟩] [] (fun H => gFilter.rd H l1 x ∧ gFilter.rd H l2 y) (fun v A => v = .bool (decide (x = y)) ∧ A = []) := by
 refine Ct.intro0 G_ok func172 rfl rfl rfl fun E H hp => ?_
 obtain ⟨hp1, hp2⟩ := hp
 obtain ⟨rfl, w0p, w1p, w2p, w3p⟩ := gFilter_rd.1 hp1
 obtain ⟨rfl, w0q, w1q, w2q, w3q⟩ := gFilter_rd.1 hp2
 refine ⟨fun x0 => ?_⟩
 refine ⟨fun x1 => ?_⟩
 refine ⟨fun q2 => ?_, fun q2 => ?_⟩
 ·simp at q2
  simp only [str_inj, u8_inj, u8_wrap] at q2
  exact ⟨[], ⟨by rw [decide_eq_false (fun e => by subst e; simp at *)], rfl⟩, .mem (by simp)⟩
 ·simp at q2
  simp only [str_inj, u8_inj, u8_wrap] at q2
  refine ⟨fun q3 => ?_, fun q3 => ?_⟩
  ·simp at q3
   exact ⟨[], ⟨by rw [decide_eq_false (fun e => by subst e; simp at *)], rfl⟩, .mem (by simp)⟩
  ·simp at q3
   refine ⟨fun q4 => ?_, fun q4 => ?_⟩
   ·simp at q4
    simp only [str_inj, u8_inj, u8_wrap] at q4
    exact ⟨[], ⟨by rw [decide_eq_false (fun e => by subst e; simp at *)], rfl⟩, .mem (by simp)⟩
   ·simp at q4
    simp only [str_inj, u8_inj, u8_wrap] at q4
    refine ⟨fun q5 => ?_, fun q5 => ?_⟩
    ·simp at q5
     exact ⟨[], ⟨by rw [decide_eq_false (fun e => by subst e; simp at *)], rfl⟩, .mem (by simp)⟩
    ·simp at q5
     exact ⟨[], ⟨by rw [decide_eq_true (Filter.eq_iff.2 (by simp_all))], rfl⟩, .mem (by simp)⟩
theorem szAtomS_ct (b : Option Addr) (m c : Nat) (xs : List Atom) (left : Int) (h0 : 0 ≤ left) (h1 : left ≤ 1048576) :
  Ct prog 57 [.slice b m c, .int .i64 left] [] (fun H => (gSl 118 gAtom).rd H [.slice b m c] xs) (fun v A => (∃ r : Int, v = .int .i64 r ∧ ((r = -1 ∧ left < (szL gAtom xs : Int)) ∨ (r = left - (szL gAtom xs : Int) ∧ (szL gAtom xs : Int) ≤ left))) ∧ A = []) := by
 refine Ct.intro0 G_ok func57 rfl rfl rfl fun E H hp => ?_
 obtain ⟨rfl, hcl, hl⟩ := sl_len hp
 have hq := szL_eq gAtom xs
 have ht := List.take_length (l := xs)
 refine ⟨fun q0 => ?_, fun q0 => ?_⟩
 ·simp at q0
  simp (disch := omega) only [wrap_of] at q0
  exact ⟨[], ⟨⟨-1, rfl, .inl ⟨rfl, woI⟩⟩, rfl⟩, .mem (by simp)⟩
 ·simp at q0
  simp (disch := omega) only [wrap_of] at q0
  apply loop_mod (α := (Nat) × (Int)) G_ok [12, 13, 14, 15, 18, 19, 20, 21, 22, 23, 1, 24, 25, 4, 16, 17, 5] (fun z => [(5, .v (.int .i64 z.1)), (1, .v (.int .i64 z.2))]) (fun z => []) (fun z => [H]) (fun z => xs.length - z.1) (fun z => z.1 ≤ xs.length ∧ z.2 = left - xs.length - szE gAtom (xs.take z.1) ∧ 0 ≤ z.2) ((0, left - xs.length))
  ·repeat' (first | exact trivial | refine ⟨⟨_, rfl, by first | rfl | exact inc_eq _ (by omega) | (refine sl_eq ?_; simp; done) | (simp (disch := omega) only [wrap_of]), by first | exact trivial | simp [SV.ok]⟩, ?_⟩)
  ·exact trivial
  ·try dsimp only
   exact ⟨by omega, by simp [szE], by omega⟩
  ·exact .refl _
  rintro ⟨k, lf⟩ hI
  try dsimp only at hI
  obtain ⟨hk, hlf, hnn⟩ := hI
  try dsimp only
  refine ⟨fun q1 => ?_, fun q1 => ?_⟩
  ·simp at q1
   have hs := szE_step gAtom xs k default (by omega)
   have hs2 := szE_le gAtom xs (k + 1)
   refine idx_rd hp ?_ ?_ fun b2 o2 hb2 => ?_
   ·omega
   ·omega
   refine load_allN default (k) rfl hp ?_ ?_ hb2 rfl (mem_at 0 rfl) fun l3 hl3 => ?_
   ·omega
   ·omega
   obtain ⟨rfl, w0x3, w1x3, w2x3⟩ := gAtom_rd.1 hl3
   refine call_q (szAtom_ct _ (xs[k]?.getD default) _ ?_ ?_) (Rp.mono _ (mem_at 0 rfl) hl3) ?_
   ·trivial
   ·omega
   rintro _ ⟨r4, rfl, hr4⟩
   refine ⟨fun q5 => ?_, fun q5 => ?_⟩
   ·simp at q5
    exact ⟨[], ⟨⟨-1, rfl, .inl ⟨rfl, woI⟩⟩, rfl⟩, .mem (by simp)⟩
   ·simp at q5
    apply loop_stepA (k + 1, _)
    ·exact .refl _
    ·repeat' (first | exact trivial | refine ⟨⟨_, rfl, by first | rfl | exact inc_eq _ (by omega) | (refine sl_eq ?_; simp; done) | (simp (disch := omega) only [wrap_of]), by first | exact trivial | simp [SV.ok]⟩, ?_⟩)
    ·exact trivial
    ·try dsimp only
     ((try simp (disch := omega) only [wrap_of] at *); refine ⟨by omega, by omega, by omega⟩)
    try dsimp only
    omega
  ·simp at q1
   obtain rfl : k = xs.length := by omega
   rw [List.take_length] at hlf
   exact ⟨[], ⟨⟨_, rfl, .inr ⟨woI, by omega⟩⟩, rfl⟩, .mem (by simp)⟩
theorem toAtomS_ct (b : Option Addr) (m c : Nat) (xs : List Atom) (hx : szL gAtom xs ≤ 1048576) :
  Ct prog 70 [.slice b m c] [] (fun H => (gSl 118 gAtom).rd H [.slice b m c] xs) (fun v A => ∃ b c, v = .slice b xs.length c ∧ (gSl 118 gAtom).ow [.slice b xs.length c] xs A) := by
 refine Ct.intro0 G_ok func70 rfl rfl rfl fun E H hp => ?_
 obtain ⟨rfl, hcl, hl⟩ := sl_len hp
 have hls := len_szL gAtom xs
 have hq := szL_eq gAtom xs
 refine VCmake.intro ?_ ?_ ?_ ?_ fun x0 => ?_
 ·omega
 ·omega
 ·omega
 ·omega
 apply loop_mod (α := (Nat) × (Hp)) G_ok [8, 9, 10, 11, 14, 15, 16, 17, 18, 19, 20, 21, 12, 13, 4] (fun z => [(4, .v (.int .i64 z.1))]) (fun z => []) (fun z => [z.2, H]) (fun z => xs.length - z.1) (fun z => z.1 ≤ xs.length ∧ (gSl 118 gAtom).ow [.slice (some ⟨x0, 0, none⟩) xs.length xs.length] (xs.take z.1 ++ List.replicate (xs.length - z.1) zAtom) z.2) ((0, _))
 ·exact frI
 ·exact trivial
 ·try dsimp only
  exact ⟨by omega, by simpa using gmake (g := gAtom) (T := 118) (b := x0) (zAtom_ow) (Nat.le_refl xs.length) (by omega)⟩
 ·exact .refl _
 rintro ⟨k, A⟩ hI
 try dsimp only at hI
 obtain ⟨hk, oA⟩ := hI
 try dsimp only
 refine ⟨fun q1 => ?_, fun q1 => ?_⟩
 ·simp at q1
  have hs := szE_step gAtom xs k default (by omega)
  have hs2 := szE_le gAtom xs (k + 1)
  refine idx_rd hp ?_ ?_ fun b2 o2 hb2 => ?_
  ·omega
  ·omega
  refine load_allN default (k) rfl hp ?_ ?_ hb2 rfl (mem_at 1 rfl) fun l3 hl3 => ?_
  ·omega
  ·omega
  obtain ⟨rfl, w0x3, w1x3, w2x3⟩ := gAtom_rd.1 hl3
  refine call_new (toAtom_ct _ (xs[k]?.getD default) ?_) (Rp.mono _ (mem_at 1 rfl) hl3) ?_
  ·omega
  rintro v4 A4 o4
  obtain ⟨l4, rfl, o4⟩ := o4
  have r4 := Gt.owrd _ o4
  obtain ⟨rfl, w0x4, w1x4, w2x4⟩ := gAtom_rd.1 r4
  refine idx_rd (Gt.owrd _ oA) ?_ ?_ fun b5 o5 hb5 => ?_
  ·omega
  ·simp; omega
  refine gstore1N (k) (A) (A4) [H] rlA rfl oA ?_ ?_ hb5 rfl _ o4 fun A6 o6 => ?_
  ·omega
  ·simp; omega
  apply loop_stepA (k + 1, _)
  ·exact .refl _
  ·exact frI
  ·exact trivial
  ·try dsimp only
   exact ⟨by omega, by rw [← take_stepz xs k default zAtom (by omega)] ; assumption⟩
  try dsimp only
  omega
 ·simp at q1
  obtain rfl : k = xs.length := by omega
  rw [List.take_length, Nat.sub_self, List.replicate_zero, List.append_nil] at oA
  exact ⟨_, ⟨_, _, rfl, oA⟩, rlA⟩
theorem eqAtomS_ct (b1 : Option Addr) (m1 c1 : Nat) (b2 : Option Addr) (m2 c2 : Nat) (xs ys : List Atom) :
  Ct prog 83 [.slice b1 m1 c1, .slice b2 m2 c2] [] (fun H => (gSl 118 gAtom).rd H [.slice b1 m1 c1] xs ∧ (gSl 118 gAtom).rd H [.slice b2 m2 c2] ys) (fun v A => v = .bool (decide (xs = ys)) ∧ A = []) := by
 refine Ct.intro0 G_ok func83 rfl rfl rfl fun E H hp => ?_
 obtain ⟨hp1, hp2⟩ := hp
 obtain ⟨rfl, hc1, hl1⟩ := sl_len hp1
 obtain ⟨rfl, hc2, hl2⟩ := sl_len hp2
 refine ⟨fun q0 => ?_, fun q0 => ?_⟩
 ·simp at q0
  exact ⟨[], ⟨by rw [decide_eq_false (fun e => by subst e; omega)], rfl⟩, .mem (by simp)⟩
 ·simp at q0
  apply loop_mod (α := (Nat)) G_ok [11, 12, 13, 14, 17, 18, 19, 20, 21, 22, 23, 24, 25, 26, 4, 15, 16, 5] (fun z => [(5, .v (.int .i64 z))]) (fun z => []) (fun z => [H]) (fun z => xs.length - z) (fun z => z ≤ xs.length ∧ xs.take z = ys.take z) (0)
  ·exact frI
  ·exact trivial
  ·exact ⟨by omega, by simp⟩
  ·exact .refl _
  rintro k hI
  obtain ⟨hk, he⟩ : k ≤ xs.length ∧ xs.take k = ys.take k := hI
  try dsimp only
  refine ⟨fun q1 => ?_, fun q1 => ?_⟩
  ·simp at q1
   refine draw G_ok mixed none (.q 0 (.q 1 (.q 2 (.q 3 (.q 4 (.q 5 (.q 6 (.q 7 (.f 8 (.q 9 (.nil))))))))))) (by decide +kernel) ?_
   refine idx_rd hp1 ?_ ?_ fun b2 o2 hb2 => ?_
   ·omega
   ·omega
   refine load_allN default (k) rfl hp1 ?_ ?_ hb2 rfl (mem_at 0 rfl) fun l3 hl3 => ?_
   ·omega
   ·omega
   obtain ⟨rfl, w0x3, w1x3, w2x3⟩ := gAtom_rd.1 hl3
   refine idx_rd hp2 ?_ ?_ fun b4 o4 hb4 => ?_
   ·omega
   ·omega
   refine load_allN default (k) rfl hp2 ?_ ?_ hb4 rfl (mem_at 0 rfl) fun l5 hl5 => ?_
   ·omega
   ·omega
   obtain ⟨rfl, w0x5, w1x5, w2x5⟩ := gAtom_rd.1 hl5
   refine call_val (eqAtom_ct _ _ (xs[k]?.getD default) (ys[k]?.getD default)) ⟨(Rp.mono _ (mem_at 0 rfl) hl3), (Rp.mono _ (mem_at 0 rfl) hl5)⟩ ?_
   rintro _ rfl
   refine VC.intro ?_ ?_
   ·exact fun _ h => h
   refine ⟨fun q7 => ?_, fun q7 => ?_⟩
   ·simp at q7
    exact ⟨[], ⟨by rw [decide_eq_false (fun e => by subst e; simp at *)], rfl⟩, .mem (by simp)⟩
   ·simp at q7
    apply loop_stepA (k + 1)
    ·exact .refl _
    ·exact frI
    ·exact trivial
    ·exact ⟨by omega, eq_step default (by omega) he (by omega) (by simpa using ‹_›)⟩
    omega
  ·simp at q1
   exact ⟨[], ⟨by rw [decide_eq_true]; rw [← List.take_length (l := xs), ← List.take_length (l := ys), ← (by omega : xs.length = ys.length), show xs.length = k by omega]; exact he, rfl⟩, .mem (by simp)⟩
theorem szFilterS_ct (b : Option Addr) (m c : Nat) (xs : List Filter) (left : Int) (h0 : 0 ≤ left) (h1 : left ≤ 1048576) :
  Ct prog 58 [.slice b m c, .int .i64 left] [] (fun H => (gSl 220 gFilter).rd H [.slice b m c] xs) (fun v A => (∃ r : Int, v = .int .i64 r ∧ ((r = -1 ∧ left < (szL gFilter xs : Int)) ∨ (r = left - (szL gFilter xs : Int) ∧ (szL gFilter xs : Int) ≤ left))) ∧ A = []) := by
 refine Ct.intro0 G_ok func58 rfl rfl rfl fun E H hp => ?_
 obtain ⟨rfl, hcl, hl⟩ := sl_len hp
 have hq := szL_eq gFilter xs
 have ht := List.take_length (l := xs)
 refine ⟨fun q0 => ?_, fun q0 => ?_⟩
 ·simp at q0
  simp (disch := omega) only [wrap_of] at q0
  exact ⟨[], ⟨⟨-1, rfl, .inl ⟨rfl, woI⟩⟩, rfl⟩, .mem (by simp)⟩
 ·simp at q0
  simp (disch := omega) only [wrap_of] at q0
  apply loop_mod (α := (Nat) × (Int)) G_ok [12, 13, 14, 15, 18, 19, 20, 21, 22, 23, 1, 24, 25, 4, 16, 17, 5] (fun z => [(5, .v (.int .i64 z.1)), (1, .v (.int .i64 z.2))]) (fun z => []) (fun z => [H]) (fun z => xs.length - z.1) (fun z => z.1 ≤ xs.length ∧ z.2 = left - xs.length - szE gFilter (xs.take z.1) ∧ 0 ≤ z.2) ((0, left - xs.length))
  ·repeat' (first | exact trivial | refine ⟨⟨_, rfl, by first | rfl | exact inc_eq _ (by omega) | (refine sl_eq ?_; simp; done) | (simp (disch := omega) only [wrap_of]), by first | exact trivial | simp [SV.ok]⟩, ?_⟩)
  ·exact trivial
  ·try dsimp only
   exact ⟨by omega, by simp [szE], by omega⟩
  ·exact .refl _
  rintro ⟨k, lf⟩ hI
  try dsimp only at hI
  obtain ⟨hk, hlf, hnn⟩ := hI
  try dsimp only
  refine ⟨fun q1 => ?_, fun q1 => ?_⟩
  ·simp at q1
   have hs := szE_step gFilter xs k default (by omega)
   have hs2 := szE_le gFilter xs (k + 1)
   refine idx_rd hp ?_ ?_ fun b2 o2 hb2 => ?_
   ·omega
   ·omega
   refine load_allN default (k) rfl hp ?_ ?_ hb2 rfl (mem_at 0 rfl) fun l3 hl3 => ?_
   ·omega
   ·omega
   obtain ⟨rfl, w0x3, w1x3, w2x3, w3x3⟩ := gFilter_rd.1 hl3
   refine call_q (szFilter_ct _ (xs[k]?.getD default) _ ?_ ?_) (Rp.mono _ (mem_at 0 rfl) hl3) ?_
   ·trivial
   ·omega
   rintro _ ⟨r4, rfl, hr4⟩
   refine ⟨fun q5 => ?_, fun q5 => ?_⟩
   ·simp at q5
    exact ⟨[], ⟨⟨-1, rfl, .inl ⟨rfl, woI⟩⟩, rfl⟩, .mem (by simp)⟩
   ·simp at q5
    apply loop_stepA (k + 1, _)
    ·exact .refl _
    ·repeat' (first | exact trivial | refine ⟨⟨_, rfl, by first | rfl | exact inc_eq _ (by omega) | (refine sl_eq ?_; simp; done) | (simp (disch := omega) only [wrap_of]), by first | exact trivial | simp [SV.ok]⟩, ?_⟩)
    ·exact trivial
    ·try dsimp only
     ((try simp (disch := omega) only [wrap_of] at *); refine ⟨by omega, by omega, by omega⟩)
    try dsimp only
    omega
  ·simp at q1
   obtain rfl : k = xs.length := by omega
   rw [List.take_length] at hlf
   exact ⟨[], ⟨⟨_, rfl, .inr ⟨woI, by omega⟩⟩, rfl⟩, .mem (by simp)⟩
theorem toFilterS_ct (b : Option Addr) (m c : Nat) (xs : List Filter) (hx : szL gFilter xs ≤ 1048576) :
  Ct prog 71 [.slice b m c] [] (fun H => (gSl 220 gFilter).rd H [.slice b m c] xs) (fun v A => ∃ b c, v = .slice b xs.length c ∧ (gSl 220 gFilter).ow [.slice b xs.length c] xs A) := by
 refine Ct.intro0 G_ok func71 rfl rfl rfl fun E H hp => ?_
 obtain ⟨rfl, hcl, hl⟩ := sl_len hp
 have hls := len_szL gFilter xs
 have hq := szL_eq gFilter xs
 refine VCmake.intro ?_ ?_ ?_ ?_ fun x0 => ?_
 ·omega
 ·omega
 ·omega
 ·omega
 apply loop_mod (α := (Nat) × (Hp)) G_ok [8, 9, 10, 11, 14, 15, 16, 17, 18, 19, 20, 21, 12, 13, 4] (fun z => [(4, .v (.int .i64 z.1))]) (fun z => []) (fun z => [z.2, H]) (fun z => xs.length - z.1) (fun z => z.1 ≤ xs.length ∧ (gSl 220 gFilter).ow [.slice (some ⟨x0, 0, none⟩) xs.length xs.length] (xs.take z.1 ++ List.replicate (xs.length - z.1) zFilter) z.2) ((0, _))
 ·exact frI
 ·exact trivial
 ·try dsimp only
  exact ⟨by omega, by simpa using gmake (g := gFilter) (T := 220) (b := x0) (zFilter_ow) (Nat.le_refl xs.length) (by omega)⟩
 ·exact .refl _
 rintro ⟨k, A⟩ hI
 try dsimp only at hI
 obtain ⟨hk, oA⟩ := hI
 try dsimp only
 refine ⟨fun q1 => ?_, fun q1 => ?_⟩
 ·simp at q1
  have hs := szE_step gFilter xs k default (by omega)
  have hs2 := szE_le gFilter xs (k + 1)
  refine idx_rd hp ?_ ?_ fun b2 o2 hb2 => ?_
  ·omega
  ·omega
  refine load_allN default (k) rfl hp ?_ ?_ hb2 rfl (mem_at 1 rfl) fun l3 hl3 => ?_
  ·omega
  ·omega
  obtain ⟨rfl, w0x3, w1x3, w2x3, w3x3⟩ := gFilter_rd.1 hl3
  refine call_new (toFilter_ct _ (xs[k]?.getD default) ?_) (Rp.mono _ (mem_at 1 rfl) hl3) ?_
  ·omega
  rintro v4 A4 o4
  obtain ⟨l4, rfl, o4⟩ := o4
  have r4 := Gt.owrd _ o4
  obtain ⟨rfl, w0x4, w1x4, w2x4, w3x4⟩ := gFilter_rd.1 r4
  refine idx_rd (Gt.owrd _ oA) ?_ ?_ fun b5 o5 hb5 => ?_
  ·omega
  ·simp; omega
  refine gstore1N (k) (A) (A4) [H] rlA rfl oA ?_ ?_ hb5 rfl _ o4 fun A6 o6 => ?_
  ·omega
  ·simp; omega
  apply loop_stepA (k + 1, _)
  ·exact .refl _
  ·exact frI
  ·exact trivial
  ·try dsimp only
   exact ⟨by omega, by rw [← take_stepz xs k default zFilter (by omega)] ; assumption⟩
  try dsimp only
  omega
 ·simp at q1
  obtain rfl : k = xs.length := by omega
  rw [List.take_length, Nat.sub_self, List.replicate_zero, List.append_nil] at oA
  exact ⟨_, ⟨_, _, rfl, oA⟩, rlA⟩
theorem eqFilterS_ct (b1 : Option Addr) (m1 c1 : Nat) (b2 : Option Addr) (m2 c2 : Nat) (xs ys : List Filter) :
  Ct prog 84 [.slice b1 m1 c1, .slice b2 m2 c2] [] (fun H => (gSl 220 gFilter).rd H [.slice b1 m1 c1] xs ∧ (gSl 220 gFilter).rd H [.slice b2 m2 c2] ys) (fun v A => v = .bool (decide (xs = ys)) ∧ A = []) := by
 refine Ct.intro0 G_ok func84 rfl rfl rfl fun E H hp => ?_
 obtain ⟨hp1, hp2⟩ := hp
 obtain ⟨rfl, hc1, hl1⟩ := sl_len hp1
 obtain ⟨rfl, hc2, hl2⟩ := sl_len hp2
 refine ⟨fun q0 => ?_, fun q0 => ?_⟩
 ·simp at q0
  exact ⟨[], ⟨by rw [decide_eq_false (fun e => by subst e; omega)], rfl⟩, .mem (by simp)⟩
 ·simp at q0
  apply loop_mod (α := (Nat)) G_ok [11, 12, 13, 14, 17, 18, 19, 20, 21, 22, 23, 24, 25, 26, 4, 15, 16, 5] (fun z => [(5, .v (.int .i64 z))]) (fun z => []) (fun z => [H]) (fun z => xs.length - z) (fun z => z ≤ xs.length ∧ xs.take z = ys.take z) (0)
  ·exact frI
  ·exact trivial
  ·exact ⟨by omega, by simp⟩
  ·exact .refl _
  rintro k hI
  obtain ⟨hk, he⟩ : k ≤ xs.length ∧ xs.take k = ys.take k := hI
  try dsimp only
  refine ⟨fun q1 => ?_, fun q1 => ?_⟩
  ·simp at q1
   refine draw G_ok mixed none (.q 0 (.q 1 (.q 2 (.q 3 (.q 4 (.q 5 (.q 6 (.q 7 (.f 8 (.q 9 (.nil))))))))))) (by decide +kernel) ?_
   refine idx_rd hp1 ?_ ?_ fun b2 o2 hb2 => ?_
   ·omega
   ·omega
   refine load_allN default (k) rfl hp1 ?_ ?_ hb2 rfl (mem_at 0 rfl) fun l3 hl3 => ?_
   ·omega
   ·omega
   obtain ⟨rfl, w0x3, w1x3, w2x3, w3x3⟩ := gFilter_rd.1 hl3
   refine idx_rd hp2 ?_ ?_ fun b4 o4 hb4 => ?_
   ·omega
   ·omega
   refine load_allN default (k) rfl hp2 ?_ ?_ hb4 rfl (mem_at 0 rfl) fun l5 hl5 => ?_
   ·omega
   ·omega
   obtain ⟨rfl, w0x5, w1x5, w2x5, w3x5⟩ := gFilter_rd.1 hl5
   refine call_val (eqFilter_ct _ _ (xs[k]?.getD default) (ys[k]?.getD default)) ⟨(Rp.mono _ (mem_at 0 rfl) hl3), (Rp.mono _ (mem_at 0 rfl) hl5)⟩ ?_
   rintro _ rfl
   refine VC.intro ?_ ?_
   ·exact fun _ h => h
   refine ⟨fun q7 => ?_, fun q7 => ?_⟩
   ·simp at q7
    exact ⟨[], ⟨by rw [decide_eq_false (fun e => by subst e; simp at *)], rfl⟩, .mem (by simp)⟩
   ·simp at q7
    apply loop_stepA (k + 1)
    ·exact .refl _
    ·exact frI
    ·exact trivial
    ·exact ⟨by omega, eq_step default (by omega) he (by omega) (by simpa using ‹_›)⟩
    omega
  ·simp at q1
   exact ⟨[], ⟨by rw [decide_eq_true]; rw [← List.take_length (l := xs), ← List.take_length (l := ys), ← (by omega : xs.length = ys.length), show xs.length = k by omega]; exact he, rfl⟩, .mem (by simp)⟩
theorem szQuery_ct (l : List Value) (x : Query) (left : Int) (h0 : 0 ≤ left) (h1 : left ≤ 1048576) :
  Ct prog 9 [.agg ⟨l⟩, .int .i64 left] [] (fun H => gQuery.rd H l x) (fun v A => (∃ r : Int, v = .int .i64 r ∧ ((r = -1 ∧ left < (gQuery.sz x : Int)) ∨ (r = left - (gQuery.sz x : Int) ∧ (gQuery.sz x : Int) ≤ left))) ∧ A = []) := by
 refine Ct.intro0 G_ok func9 rfl rfl rfl fun E H hp => ?_
 obtain ⟨b1, c1, b2, c2, b3, c3, rfl, h1, h2, h3⟩ := gQuery_rd.1 hp
 have hz := gQuery_sz x
 refine ⟨fun x0 => ?_⟩
 refine call_q (szStringS_ct _ _ _ (x.out) _ ?_ ?_) (Rp.mono _ (mem_at 0 rfl) h1) ?_
 ·trivial
 ·trivial
 rintro _ ⟨r1, rfl, hr1⟩
 refine ⟨fun q2 => ?_, fun q2 => ?_⟩
 ·simp at q2
  exact ⟨[], ⟨⟨-1, rfl, .inl ⟨rfl, woI⟩⟩, rfl⟩, .mem (by simp)⟩
 ·simp at q2
  refine call_q (szAtomS_ct _ _ _ (x.atoms) _ ?_ ?_) (Rp.mono _ (mem_at 0 rfl) h2) ?_
  ·trivial
  ·omega
  rintro _ ⟨r3, rfl, hr3⟩
  refine ⟨fun q4 => ?_, fun q4 => ?_⟩
  ·simp at q4
   exact ⟨[], ⟨⟨-1, rfl, .inl ⟨rfl, woI⟩⟩, rfl⟩, .mem (by simp)⟩
  ·simp at q4
   refine call_q (szFilterS_ct _ _ _ (x.filters) _ ?_ ?_) (Rp.mono _ (mem_at 0 rfl) h3) ?_
   ·trivial
   ·omega
   rintro _ ⟨r5, rfl, hr5⟩
   refine ⟨fun q6 => ?_, fun q6 => ?_⟩
   ·simp at q6
    exact ⟨[], ⟨⟨-1, rfl, .inl ⟨rfl, woI⟩⟩, rfl⟩, .mem (by simp)⟩
   ·simp at q6
    exact ⟨[], ⟨⟨_, rfl, .inr ⟨woI, by omega⟩⟩, rfl⟩, .mem (by simp)⟩
theorem toQuery_ct (l : List Value) (x : Query) (hx : gQuery.sz x ≤ 1048576) :
  Ct prog 12 [.agg ⟨l⟩] [] (fun H => gQuery.rd H l x) (fun v A => ∃ l, v = .agg ⟨l⟩ ∧ gQuery.ow l x A) := by
 refine Ct.intro0 G_ok func12 rfl rfl rfl fun E H hp => ?_
 obtain ⟨b1, c1, b2, c2, b3, c3, rfl, h1, h2, h3⟩ := gQuery_rd.1 hp
 have hz := gQuery_sz x
 refine ⟨fun x0 => ?_⟩
 refine ⟨fun x1 => ?_⟩
 refine ⟨fun x2 => ?_⟩
 refine call_new (toStringS_ct _ _ _ (x.out) ?_) (Rp.mono _ (mem_at 0 rfl) h1) ?_
 ·omega
 rintro v3 A3 o3
 obtain ⟨b3, c3, rfl, o3⟩ := o3
 refine call_new (toAtomS_ct _ _ _ (x.atoms) ?_) (Rp.mono _ (mem_at 1 rfl) h2) ?_
 ·omega
 rintro v4 A4 o4
 obtain ⟨b4, c4, rfl, o4⟩ := o4
 refine call_new (toFilterS_ct _ _ _ (x.filters) ?_) (Rp.mono _ (mem_at 2 rfl) h3) ?_
 ·omega
 rintro v5 A5 o5
 obtain ⟨b5, c5, rfl, o5⟩ := o5
 exact ⟨_, ⟨_, rfl, gQuery_ow.2 ⟨_, _, _, _, _, _, _, _, _, rfl, .refl _, by assumption, by assumption, by assumption⟩⟩, rlA⟩
theorem eqQuery_ct (l1 l2 : List Value) (x y : Query) :
  Ct prog 17 [.agg ⟨l1⟩, .agg ⟨l2⟩] [] (fun H => gQuery.rd H l1 x ∧ gQuery.rd H l2 y) (fun v A => v = .bool (decide (x = y)) ∧ A = []) := by
 refine Ct.intro0 G_ok func17 rfl rfl rfl fun E H hp => ?_
 obtain ⟨hp1, hp2⟩ := hp
 obtain ⟨b1p, c1p, b2p, c2p, b3p, c3p, rfl, h1p, h2p, h3p⟩ := gQuery_rd.1 hp1
 obtain ⟨b1q, c1q, b2q, c2q, b3q, c3q, rfl, h1q, h2q, h3q⟩ := gQuery_rd.1 hp2
 refine ⟨fun x0 => ?_⟩
 refine ⟨fun x1 => ?_⟩
 refine ⟨fun q2 => ?_, fun q2 => ?_⟩
 ·simp at q2
  exact ⟨[], ⟨by rw [decide_eq_false (fun e => by subst e; simp at *)], rfl⟩, .mem (by simp)⟩
 ·simp at q2
  refine call_val (eqStringS_ct _ _ _ _ _ _ (x.out) (y.out)) ⟨(Rp.mono _ (mem_at 0 rfl) h1p), (Rp.mono _ (mem_at 0 rfl) h1q)⟩ ?_
  rintro _ rfl
  refine ⟨fun q4 => ?_, fun q4 => ?_⟩
  ·simp at q4
   exact ⟨[], ⟨by rw [decide_eq_false (fun e => by subst e; simp at *)], rfl⟩, .mem (by simp)⟩
  ·simp at q4
   refine call_val (eqAtomS_ct _ _ _ _ _ _ (x.atoms) (y.atoms)) ⟨(Rp.mono _ (mem_at 0 rfl) h2p), (Rp.mono _ (mem_at 0 rfl) h2q)⟩ ?_
   rintro _ rfl
   refine ⟨fun q6 => ?_, fun q6 => ?_⟩
   ·simp at q6
    exact ⟨[], ⟨by rw [decide_eq_false (fun e => by subst e; simp at *)], rfl⟩, .mem (by simp)⟩
   ·simp at q6
    refine call_val (eqFilterS_ct _ _ _ _ _ _ (x.filters) (y.filters)) ⟨(Rp.mono _ (mem_at 0 rfl) h3p), (Rp.mono _ (mem_at 0 rfl) h3q)⟩ ?_
    rintro _ rfl
    refine ⟨fun q8 => ?_, fun q8 => ?_⟩
    ·simp at q8
     exact ⟨[], ⟨by rw [decide_eq_false (fun e => by subst e; simp at *)], rfl⟩, .mem (by simp)⟩
    ·simp at q8
     exact ⟨[], ⟨by rw [decide_eq_true (Query.eq_iff.2 (by simp_all))], rfl⟩, .mem (by simp)⟩
theorem szGot_ct (l : List Value) (x : Got) (left : Int) (h0 : 0 ≤ left) (h1 : left ≤ 1048576) :
  Ct prog 214 [.agg ⟨l⟩, .int .i64 left] [] (fun H => gGot.rd H l x) (fun v A => (∃ r : Int, v = .int .i64 r ∧ ((r = -1 ∧ left < (gGot.sz x : Int)) ∨ (r = left - (gGot.sz x : Int) ∧ (gGot.sz x : Int) ≤ left))) ∧ A = []) := by
 refine Ct.intro0 G_ok func214 rfl rfl rfl fun E H hp => ?_
 obtain ⟨l2, rfl, w0, w1, h2⟩ := gGot_rd.1 hp
 obtain ⟨b0_2, c0_2, rfl, h0_2⟩ := gBag_rd.1 h2
 have hz := gGot_sz x
 refine ⟨fun x0 => ?_⟩
 refine call_q (szBag_ct _ (x.bag) _ ?_ ?_) (Rp.mono _ (mem_at 0 rfl) h2) ?_
 ·trivial
 ·trivial
 rintro _ ⟨r1, rfl, hr1⟩
 refine ⟨fun q2 => ?_, fun q2 => ?_⟩
 ·simp at q2
  exact ⟨[], ⟨⟨-1, rfl, .inl ⟨rfl, woI⟩⟩, rfl⟩, .mem (by simp)⟩
 ·simp at q2
  exact ⟨[], ⟨⟨_, rfl, .inr ⟨woI, by omega⟩⟩, rfl⟩, .mem (by simp)⟩
theorem toGot_ct (l : List Value) (x : Got) (hx : gGot.sz x ≤ 1048576) :
  Ct prog 225 [.agg ⟨l⟩] [] (fun H => gGot.rd H l x) (fun v A => ∃ l, v = .agg ⟨l⟩ ∧ gGot.ow l x A) := by
 refine Ct.intro0 G_ok func225 rfl rfl rfl fun E H hp => ?_
 obtain ⟨l2, rfl, w0, w1, h2⟩ := gGot_rd.1 hp
 obtain ⟨b0_2, c0_2, rfl, h0_2⟩ := gBag_rd.1 h2
 have hz := gGot_sz x
 refine ⟨fun x0 => ?_⟩
 refine ⟨fun x1 => ?_⟩
 refine ⟨fun x2 => ?_⟩
 refine call_new (toBag_ct _ (x.bag) ?_) (Rp.mono _ (mem_at 0 rfl) h2) ?_
 ·omega
 rintro v3 A3 o3
 obtain ⟨l3, rfl, o3⟩ := o3
 have r3 := Gt.owrd _ o3
 obtain ⟨b0x3, c0x3, rfl, h0x3⟩ := gBag_rd.1 r3
 exact ⟨_, ⟨_, rfl, gGot_ow.2 ⟨_, _, rfl, .refl _, by assumption, by assumption, by assumption⟩⟩, rlA⟩
theorem eqGot_ct (l1 l2 : List Value) (x y : Got) :
  Ct prog 235 [.agg ⟨l1⟩, .agg ⟨l2⟩] [] (fun H => gGot.rd H l1 x ∧ gGot.rd H l2 y) (fun v A => v = .bool (decide (x = y)) ∧ A = []) := by
 refine Ct.intro0 G_ok func235 rfl rfl rfl fun E H hp => ?_
 obtain ⟨hp1, hp2⟩ := hp
 obtain ⟨l2p, rfl, w0p, w1p, h2p⟩ := gGot_rd.1 hp1
 obtain ⟨b0_2p, c0_2p, rfl, h0_2p⟩ := gBag_rd.1 h2p
 obtain ⟨l2q, rfl, w0q, w1q, h2q⟩ := gGot_rd.1 hp2
 obtain ⟨b0_2q, c0_2q, rfl, h0_2q⟩ := gBag_rd.1 h2q
 refine ⟨fun x0 => ?_⟩
 refine ⟨fun x1 => ?_⟩
 refine ⟨fun q2 => ?_, fun q2 => ?_⟩
 ·simp at q2
  exact ⟨[], ⟨by rw [decide_eq_false (fun e => by subst e; simp at *)], rfl⟩, .mem (by simp)⟩
 ·simp at q2
  refine ⟨fun q3 => ?_, fun q3 => ?_⟩
  ·simp at q3
   exact ⟨[], ⟨by rw [decide_eq_false (fun e => by subst e; simp at *)], rfl⟩, .mem (by simp)⟩
  ·simp at q3
   refine call_val (eqBag_ct _ _ (x.bag) (y.bag)) ⟨(Rp.mono _ (mem_at 0 rfl) h2p), (Rp.mono _ (mem_at 0 rfl) h2q)⟩ ?_
   rintro _ rfl
   refine ⟨fun q5 => ?_, fun q5 => ?_⟩
   ·simp at q5
    exact ⟨[], ⟨by rw [decide_eq_false (fun e => by subst e; simp at *)], rfl⟩, .mem (by simp)⟩
   ·simp at q5
    exact ⟨[], ⟨by rw [decide_eq_true (Got.eq_iff.2 (by simp_all))], rfl⟩, .mem (by simp)⟩
theorem szGotS_ct (b : Option Addr) (m c : Nat) (xs : List Got) (left : Int) (h0 : 0 ≤ left) (h1 : left ≤ 1048576) :
  Ct prog 125 [.slice b m c, .int .i64 left] [] (fun H => (gSl 188 gGot).rd H [.slice b m c] xs) (fun v A => (∃ r : Int, v = .int .i64 r ∧ ((r = -1 ∧ left < (szL gGot xs : Int)) ∨ (r = left - (szL gGot xs : Int) ∧ (szL gGot xs : Int) ≤ left))) ∧ A = []) := by
 refine Ct.intro0 G_ok func125 rfl rfl rfl fun E H hp => ?_
 obtain ⟨rfl, hcl, hl⟩ := sl_len hp
 have hq := szL_eq gGot xs
 have ht := List.take_length (l := xs)
 refine ⟨fun q0 => ?_, fun q0 => ?_⟩
 ·simp at q0
  simp (disch := omega) only [wrap_of] at q0
  exact ⟨[], ⟨⟨-1, rfl, .inl ⟨rfl, woI⟩⟩, rfl⟩, .mem (by simp)⟩
 ·simp at q0
  simp (disch := omega) only [wrap_of] at q0
  apply loop_mod (α := (Nat) × (Int)) G_ok [12, 13, 14, 15, 18, 19, 20, 21, 22, 23, 1, 24, 25, 4, 16, 17, 5] (fun z => [(5, .v (.int .i64 z.1)), (1, .v (.int .i64 z.2))]) (fun z => []) (fun z => [H]) (fun z => xs.length - z.1) (fun z => z.1 ≤ xs.length ∧ z.2 = left - xs.length - szE gGot (xs.take z.1) ∧ 0 ≤ z.2) ((0, left - xs.length))
  ·repeat' (first | exact trivial | refine ⟨⟨_, rfl, by first | rfl | exact inc_eq _ (by omega) | (refine sl_eq ?_; simp; done) | (simp (disch := omega) only [wrap_of]), by first | exact trivial | simp [SV.ok]⟩, ?_⟩)
  ·exact trivial
  ·try dsimp only
   exact ⟨by omega, by simp [szE], by omega⟩
  ·exact .refl _
  rintro ⟨k, lf⟩ hI
  try dsimp only at hI
  obtain ⟨hk, hlf, hnn⟩ := hI
  try dsimp only
  refine ⟨fun q1 => ?_, fun q1 => ?_⟩
  ·simp at q1
   have hs := szE_step gGot xs k default (by omega)
   have hs2 := szE_le gGot xs (k + 1)
   refine idx_rd hp ?_ ?_ fun b2 o2 hb2 => ?_
   ·omega
   ·omega
   refine load_allN default (k) rfl hp ?_ ?_ hb2 rfl (mem_at 0 rfl) fun l3 hl3 => ?_
   ·omega
   ·omega
   obtain ⟨l2x3, rfl, w0x3, w1x3, h2x3⟩ := gGot_rd.1 hl3 ; obtain ⟨b0_2x3, c0_2x3, rfl, h0_2x3⟩ := gBag_rd.1 h2x3
   refine call_q (szGot_ct _ (xs[k]?.getD default) _ ?_ ?_) (Rp.mono _ (mem_at 0 rfl) hl3) ?_
   ·trivial
   ·omega
   rintro _ ⟨r4, rfl, hr4⟩
   refine ⟨fun q5 => ?_, fun q5 => ?_⟩
   ·simp at q5
    exact ⟨[], ⟨⟨-1, rfl, .inl ⟨rfl, woI⟩⟩, rfl⟩, .mem (by simp)⟩
   ·simp at q5
    apply loop_stepA (k + 1, _)
    ·exact .refl _
    ·repeat' (first | exact trivial | refine ⟨⟨_, rfl, by first | rfl | exact inc_eq _ (by omega) | (refine sl_eq ?_; simp; done) | (simp (disch := omega) only [wrap_of]), by first | exact trivial | simp [SV.ok]⟩, ?_⟩)
    ·exact trivial
    ·try dsimp only
     ((try simp (disch := omega) only [wrap_of] at *); refine ⟨by omega, by omega, by omega⟩)
    try dsimp only
    omega
  ·simp at q1
   obtain rfl : k = xs.length := by omega
   rw [List.take_length] at hlf
   exact ⟨[], ⟨⟨_, rfl, .inr ⟨woI, by omega⟩⟩, rfl⟩, .mem (by simp)⟩
theorem toGotS_ct (b : Option Addr) (m c : Nat) (xs : List Got) (hx : szL gGot xs ≤ 1048576) :
  Ct prog 129 [.slice b m c] [] (fun H => (gSl 188 gGot).rd H [.slice b m c] xs) (fun v A => ∃ b c, v = .slice b xs.length c ∧ (gSl 188 gGot).ow [.slice b xs.length c] xs A) := by
 refine Ct.intro0 G_ok func129 rfl rfl rfl fun E H hp => ?_
 obtain ⟨rfl, hcl, hl⟩ := sl_len hp
 have hls := len_szL gGot xs
 have hq := szL_eq gGot xs
 refine VCmake.intro ?_ ?_ ?_ ?_ fun x0 => ?_
 ·omega
 ·omega
 ·omega
 ·omega
 apply loop_mod (α := (Nat) × (Hp)) G_ok [8, 9, 10, 11, 14, 15, 16, 17, 18, 19, 20, 21, 12, 13, 4] (fun z => [(4, .v (.int .i64 z.1))]) (fun z => []) (fun z => [z.2, H]) (fun z => xs.length - z.1) (fun z => z.1 ≤ xs.length ∧ (gSl 188 gGot).ow [.slice (some ⟨x0, 0, none⟩) xs.length xs.length] (xs.take z.1 ++ List.replicate (xs.length - z.1) zGot) z.2) ((0, _))
 ·exact frI
 ·exact trivial
 ·try dsimp only
  exact ⟨by omega, by simpa using gmake (g := gGot) (T := 188) (b := x0) (zGot_ow) (Nat.le_refl xs.length) (by omega)⟩
 ·exact .refl _
 rintro ⟨k, A⟩ hI
 try dsimp only at hI
 obtain ⟨hk, oA⟩ := hI
 try dsimp only
 refine ⟨fun q1 => ?_, fun q1 => ?_⟩
 ·simp at q1
  have hs := szE_step gGot xs k default (by omega)
  have hs2 := szE_le gGot xs (k + 1)
  refine idx_rd hp ?_ ?_ fun b2 o2 hb2 => ?_
  ·omega
  ·omega
  refine load_allN default (k) rfl hp ?_ ?_ hb2 rfl (mem_at 1 rfl) fun l3 hl3 => ?_
  ·omega
  ·omega
  obtain ⟨l2x3, rfl, w0x3, w1x3, h2x3⟩ := gGot_rd.1 hl3 ; obtain ⟨b0_2x3, c0_2x3, rfl, h0_2x3⟩ := gBag_rd.1 h2x3
  refine call_new (toGot_ct _ (xs[k]?.getD default) ?_) (Rp.mono _ (mem_at 1 rfl) hl3) ?_
  ·omega
  rintro v4 A4 o4
  obtain ⟨l4, rfl, o4⟩ := o4
  have r4 := Gt.owrd _ o4
  obtain ⟨l2x4, rfl, w0x4, w1x4, h2x4⟩ := gGot_rd.1 r4
  obtain ⟨b0_2x4, c0_2x4, rfl, h0_2x4⟩ := gBag_rd.1 h2x4
  refine idx_rd (Gt.owrd _ oA) ?_ ?_ fun b5 o5 hb5 => ?_
  ·omega
  ·simp; omega
  refine gstore1N (k) (A) (A4) [H] rlA rfl oA ?_ ?_ hb5 rfl _ o4 fun A6 o6 => ?_
  ·omega
  ·simp; omega
  apply loop_stepA (k + 1, _)
  ·exact .refl _
  ·exact frI
  ·exact trivial
  ·try dsimp only
   exact ⟨by omega, by rw [← take_stepz xs k default zGot (by omega)] ; assumption⟩
  try dsimp only
  omega
 ·simp at q1
  obtain rfl : k = xs.length := by omega
  rw [List.take_length, Nat.sub_self, List.replicate_zero, List.append_nil] at oA
  exact ⟨_, ⟨_, _, rfl, oA⟩, rlA⟩
theorem eqGotS_ct (b1 : Option Addr) (m1 c1 : Nat) (b2 : Option Addr) (m2 c2 : Nat) (xs ys : List Got) :
  Ct prog 134 [.slice b1 m1 c1, .slice b2 m2 c2] [] (fun H => (gSl 188 gGot).rd H [.slice b1 m1 c1] xs ∧ (gSl 188 gGot).rd H [.slice b2 m2 c2] ys) (fun v A => v = .bool (decide (xs = ys)) ∧ A = []) := by
 refine Ct.intro0 G_ok func134 rfl rfl rfl fun E H hp => ?_
 obtain ⟨hp1, hp2⟩ := hp
 obtain ⟨rfl, hc1, hl1⟩ := sl_len hp1
 obtain ⟨rfl, hc2, hl2⟩ := sl_len hp2
 refine ⟨fun q0 => ?_, fun q0 => ?_⟩
 ·simp at q0
  exact ⟨[], ⟨by rw [decide_eq_false (fun e => by subst e; omega)], rfl⟩, .mem (by simp)⟩
 ·simp at q0
  apply loop_mod (α := (Nat)) G_ok [11, 12, 13, 14, 17, 18, 19, 20, 21, 22, 23, 24, 25, 26, 4, 15, 16, 5] (fun z => [(5, .v (.int .i64 z))]) (fun z => []) (fun z => [H]) (fun z => xs.length - z) (fun z => z ≤ xs.length ∧ xs.take z = ys.take z) (0)
  ·exact frI
  ·exact trivial
  ·exact ⟨by omega, by simp⟩
  ·exact .refl _
  rintro k hI
  obtain ⟨hk, he⟩ : k ≤ xs.length ∧ xs.take k = ys.take k := hI
  try dsimp only
  refine ⟨fun q1 => ?_, fun q1 => ?_⟩
  ·simp at q1
   refine draw G_ok mixed none (.q 0 (.q 1 (.q 2 (.q 3 (.q 4 (.q 5 (.q 6 (.q 7 (.f 8 (.q 9 (.nil))))))))))) (by decide +kernel) ?_
   refine idx_rd hp1 ?_ ?_ fun b2 o2 hb2 => ?_
   ·omega
   ·omega
   refine load_allN default (k) rfl hp1 ?_ ?_ hb2 rfl (mem_at 0 rfl) fun l3 hl3 => ?_
   ·omega
   ·omega
   obtain ⟨l2x3, rfl, w0x3, w1x3, h2x3⟩ := gGot_rd.1 hl3 ; obtain ⟨b0_2x3, c0_2x3, rfl, h0_2x3⟩ := gBag_rd.1 h2x3
   refine idx_rd hp2 ?_ ?_ fun b4 o4 hb4 => ?_
   ·omega
   ·omega
   refine load_allN default (k) rfl hp2 ?_ ?_ hb4 rfl (mem_at 0 rfl) fun l5 hl5 => ?_
   ·omega
   ·omega
   obtain ⟨l2x5, rfl, w0x5, w1x5, h2x5⟩ := gGot_rd.1 hl5 ; obtain ⟨b0_2x5, c0_2x5, rfl, h0_2x5⟩ := gBag_rd.1 h2x5
   refine call_val (eqGot_ct _ _ (xs[k]?.getD default) (ys[k]?.getD default)) ⟨(Rp.mono _ (mem_at 0 rfl) hl3), (Rp.mono _ (mem_at 0 rfl) hl5)⟩ ?_
   rintro _ rfl
   refine VC.intro ?_ ?_
   ·exact fun _ h => h
   refine ⟨fun q7 => ?_, fun q7 => ?_⟩
   ·simp at q7
    exact ⟨[], ⟨by rw [decide_eq_false (fun e => by subst e; simp at *)], rfl⟩, .mem (by simp)⟩
   ·simp at q7
    apply loop_stepA (k + 1)
    ·exact .refl _
    ·exact frI
    ·exact trivial
    ·exact ⟨by omega, eq_step default (by omega) he (by omega) (by simpa using ‹_›)⟩
    omega
  ·simp at q1
   exact ⟨[], ⟨by rw [decide_eq_true]; rw [← List.take_length (l := xs), ← List.take_length (l := ys), ← (by omega : xs.length = ys.length), show xs.length = k by omega]; exact he, rfl⟩, .mem (by simp)⟩
theorem szCell_ct (l : List Value) (x : Cell) (left : Int) (h0 : 0 ≤ left) (h1 : left ≤ 1048576) :
  Ct prog 42 [.agg ⟨l⟩, .int .i64 left] [] (fun H => gCell.rd H l x) (fun v A => (∃ r : Int, v = .int .i64 r ∧ ((r = -1 ∧ left < (gCell.sz x : Int)) ∨ (r = left - (gCell.sz x : Int) ∧ (gCell.sz x : Int) ≤ left))) ∧ A = []) := by
 refine Ct.intro0 G_ok func42 rfl rfl rfl fun E H hp => ?_
 obtain ⟨l0, b1, c1, b4, c4, rfl, h0, h1, w2, w3, h4⟩ := gCell_rd.1 hp
 obtain ⟨b1_0, c1_0, b2_0, c2_0, b3_0, c3_0, rfl, h1_0, h2_0, h3_0⟩ := gQuery_rd.1 h0
 have hz := gCell_sz x
 refine ⟨fun x0 => ?_⟩
 refine call_q (szQuery_ct _ (x.query) _ ?_ ?_) (Rp.mono _ (mem_at 0 rfl) h0) ?_
 ·trivial
 ·trivial
 rintro _ ⟨r1, rfl, hr1⟩
 refine ⟨fun q2 => ?_, fun q2 => ?_⟩
 ·simp at q2
  exact ⟨[], ⟨⟨-1, rfl, .inl ⟨rfl, woI⟩⟩, rfl⟩, .mem (by simp)⟩
 ·simp at q2
  refine call_q (szIntS_ct _ _ _ (x.shares) _ ?_ ?_) (Rp.mono _ (mem_at 0 rfl) h1) ?_
  ·trivial
  ·omega
  rintro _ ⟨r3, rfl, hr3⟩
  refine ⟨fun q4 => ?_, fun q4 => ?_⟩
  ·simp at q4
   exact ⟨[], ⟨⟨-1, rfl, .inl ⟨rfl, woI⟩⟩, rfl⟩, .mem (by simp)⟩
  ·simp at q4
   refine call_q (szGotS_ct _ _ _ (x.gots) _ ?_ ?_) (Rp.mono _ (mem_at 0 rfl) h4) ?_
   ·trivial
   ·omega
   rintro _ ⟨r5, rfl, hr5⟩
   refine ⟨fun q6 => ?_, fun q6 => ?_⟩
   ·simp at q6
    exact ⟨[], ⟨⟨-1, rfl, .inl ⟨rfl, woI⟩⟩, rfl⟩, .mem (by simp)⟩
   ·simp at q6
    exact ⟨[], ⟨⟨_, rfl, .inr ⟨woI, by omega⟩⟩, rfl⟩, .mem (by simp)⟩
theorem toCell_ct (l : List Value) (x : Cell) (hx : gCell.sz x ≤ 1048576) :
  Ct prog 44 [.agg ⟨l⟩] [] (fun H => gCell.rd H l x) (fun v A => ∃ l, v = .agg ⟨l⟩ ∧ gCell.ow l x A) := by
 refine Ct.intro0 G_ok func44 rfl rfl rfl fun E H hp => ?_
 obtain ⟨l0, b1, c1, b4, c4, rfl, h0, h1, w2, w3, h4⟩ := gCell_rd.1 hp
 obtain ⟨b1_0, c1_0, b2_0, c2_0, b3_0, c3_0, rfl, h1_0, h2_0, h3_0⟩ := gQuery_rd.1 h0
 have hz := gCell_sz x
 refine ⟨fun x0 => ?_⟩
 refine ⟨fun x1 => ?_⟩
 refine ⟨fun x2 => ?_⟩
 refine call_new (toQuery_ct _ (x.query) ?_) (Rp.mono _ (mem_at 0 rfl) h0) ?_
 ·omega
 rintro v3 A3 o3
 obtain ⟨l3, rfl, o3⟩ := o3
 have r3 := Gt.owrd _ o3
 obtain ⟨b1x3, c1x3, b2x3, c2x3, b3x3, c3x3, rfl, h1x3, h2x3, h3x3⟩ := gQuery_rd.1 r3
 refine call_new (toIntS_ct _ _ _ (x.shares) ?_) (Rp.mono _ (mem_at 1 rfl) h1) ?_
 ·omega
 rintro v4 A4 o4
 obtain ⟨b4, c4, rfl, o4⟩ := o4
 refine call_new (toGotS_ct _ _ _ (x.gots) ?_) (Rp.mono _ (mem_at 2 rfl) h4) ?_
 ·omega
 rintro v5 A5 o5
 obtain ⟨b5, c5, rfl, o5⟩ := o5
 exact ⟨_, ⟨_, rfl, gCell_ow.2 ⟨_, _, _, _, _, _, _, _, rfl, .refl _, by assumption, by assumption, by assumption, by assumption, by assumption⟩⟩, rlA⟩
theorem eqCell_ct (l1 l2 : List Value) (x y : Cell) :
  Ct prog 46 [.agg ⟨l1⟩, .agg ⟨l2⟩] [] (fun H => gCell.rd H l1 x ∧ gCell.rd H l2 y) (fun v A => v = .bool (decide (x = y)) ∧ A = []) := by
 refine Ct.intro0 G_ok func46 rfl rfl rfl fun E H hp => ?_
 obtain ⟨hp1, hp2⟩ := hp
 obtain ⟨l0p, b1p, c1p, b4p, c4p, rfl, h0p, h1p, w2p, w3p, h4p⟩ := gCell_rd.1 hp1
 obtain ⟨b1_0p, c1_0p, b2_0p, c2_0p, b3_0p, c3_0p, rfl, h1_0p, h2_0p, h3_0p⟩ := gQuery_rd.1 h0p
 obtain ⟨l0q, b1q, c1q, b4q, c4q, rfl, h0q, h1q, w2q, w3q, h4q⟩ := gCell_rd.1 hp2
 obtain ⟨b1_0q, c1_0q, b2_0q, c2_0q, b3_0q, c3_0q, rfl, h1_0q, h2_0q, h3_0q⟩ := gQuery_rd.1 h0q
 refine ⟨fun x0 => ?_⟩
 refine ⟨fun x1 => ?_⟩
 refine call_val (eqQuery_ct _ _ (x.query) (y.query)) ⟨(Rp.mono _ (mem_at 0 rfl) h0p), (Rp.mono _ (mem_at 0 rfl) h0q)⟩ ?_
 rintro _ rfl
 refine ⟨fun q3 => ?_, fun q3 => ?_⟩
 ·simp at q3
  exact ⟨[], ⟨by rw [decide_eq_false (fun e => by subst e; simp at *)], rfl⟩, .mem (by simp)⟩
 ·simp at q3
  refine call_val (eqIntS_ct _ _ _ _ _ _ (x.shares) (y.shares)) ⟨(Rp.mono _ (mem_at 0 rfl) h1p), (Rp.mono _ (mem_at 0 rfl) h1q)⟩ ?_
  rintro _ rfl
  refine ⟨fun q5 => ?_, fun q5 => ?_⟩
  ·simp at q5
   exact ⟨[], ⟨by rw [decide_eq_false (fun e => by subst e; simp at *)], rfl⟩, .mem (by simp)⟩
  ·simp at q5
   refine ⟨fun q6 => ?_, fun q6 => ?_⟩
   ·simp at q6
    exact ⟨[], ⟨by rw [decide_eq_false (fun e => by subst e; simp at *)], rfl⟩, .mem (by simp)⟩
   ·simp at q6
    refine ⟨fun q7 => ?_, fun q7 => ?_⟩
    ·simp at q7
     exact ⟨[], ⟨by rw [decide_eq_false (fun e => by subst e; simp at *)], rfl⟩, .mem (by simp)⟩
    ·simp at q7
     refine call_val (eqGotS_ct _ _ _ _ _ _ (x.gots) (y.gots)) ⟨(Rp.mono _ (mem_at 0 rfl) h4p), (Rp.mono _ (mem_at 0 rfl) h4q)⟩ ?_
     rintro _ rfl
     refine ⟨fun q9 => ?_, fun q9 => ?_⟩
     ·simp at q9
      exact ⟨[], ⟨by rw [decide_eq_false (fun e => by subst e; simp at *)], rfl⟩, .mem (by simp)⟩
     ·simp at q9
      exact ⟨[], ⟨by rw [decide_eq_true (Cell.eq_iff.2 (by simp_all))], rfl⟩, .mem (by simp)⟩
end
section
def inR (a b n : Int) : Bool := decide (a ≤ n) && decide (n ≤ b)
theorem inR_iff {a b n : Int} : inR a b n = true ↔ a ≤ n ∧ n ≤ b := by unfold inR; simp
theorem isWorkers_ct (n : Int) : Ct prog 140 [.int .i64 n] [] (fun _ => True) (fun v A => v = .bool (inR 1 8 n) ∧ A = []) := by
 refine Ct.intro0 G_ok func140 rfl rfl rfl fun E H hp => ?_
 refine ⟨fun q0 => ?_, fun q0 => ?_⟩
 ·simp at q0
  exact ⟨[], ⟨by unfold inR; first | rw [decide_eq_true (by omega : (1 : Int) ≤ n), Bool.true_and] | rw [decide_eq_false (by omega : ¬ (1 : Int) ≤ n), Bool.false_and], rfl⟩, .mem (by simp)⟩
 ·simp at q0
  exact ⟨[], ⟨by unfold inR; first | rw [decide_eq_true (by omega : (1 : Int) ≤ n), Bool.true_and] | rw [decide_eq_false (by omega : ¬ (1 : Int) ≤ n), Bool.false_and], rfl⟩, .mem (by simp)⟩
theorem l01In_ct (n a b : Int) : Ct prog 61 [.int .i64 n, .int .i64 a, .int .i64 b] [] (fun _ => True) (fun v A => v = .bool (inR a b n) ∧ A = []) := by
 refine Ct.intro0 G_ok func61 rfl rfl rfl fun E H hp => ?_
 refine ⟨fun q0 => ?_, fun q0 => ?_⟩
 ·simp at q0
  exact ⟨[], ⟨by unfold inR; first | rw [decide_eq_true (by omega : a ≤ n), Bool.true_and] | rw [decide_eq_false (by omega : ¬ a ≤ n), Bool.false_and], rfl⟩, .mem (by simp)⟩
 ·simp at q0
  exact ⟨[], ⟨by unfold inR; first | rw [decide_eq_true (by omega : a ≤ n), Bool.true_and] | rw [decide_eq_false (by omega : ¬ a ≤ n), Bool.false_and], rfl⟩, .mem (by simp)⟩
end
section
def by' (s : ByteArray) : List UInt8 := s.data.toList
def tx (l : List UInt8) : ByteArray := ⟨l.toArray⟩
theorem tx_by (s : ByteArray) : tx (by' s) = s := by unfold tx by'; rfl
theorem by_tx (l : List UInt8) : by' (tx l) = l := by unfold tx by'; simp
theorem by_inj {a b : ByteArray} : by' a = by' b ↔ a = b := ⟨fun h => by rw [← tx_by a, h, tx_by], fun h => by rw [h]⟩
theorem by_size (s : ByteArray) : (by' s).length = s.size := by unfold by'; simp
theorem by_get (s : ByteArray) (i : Nat) : (s[i]?).getD 0 = ((by' s)[i]?).getD 0 := by
 by_cases h : i < s.size
 ·have h2 : i < s.data.size := h
  rw [getElem?_pos s i h, List.getElem?_eq_getElem (by rw [by_size]; exact h)]
  simp [by']; rfl
 rw [getElem?_neg s i h, List.getElem?_eq_none (by rw [by_size]; omega)]
def xu (x y : Int) : Int := IntKind.u32.wrap (BitVec.ofInt IntKind.u32.bits x ^^^ BitVec.ofInt IntKind.u32.bits y).toNat
theorem u32_wrap (x : Int) : IntKind.u32.wrap x = x % 4294967296 := by
 unfold IntKind.wrap
 simp [IntKind.bits, IntKind.signed]
theorem xu_rng (x y : Int) : 0 ≤ xu x y ∧ xu x y < 4294967296 := by unfold xu; rw [u32_wrap]; omega
def bitStep (s : Int) : Int := if s % 2 = 1 then xu (s / 2) 3558460437 else s / 2
theorem bitStep_rng {s : Int} (h : 0 ≤ s ∧ s < 4294967296) : 0 ≤ bitStep s ∧ bitStep s < 4294967296 := by
 unfold bitStep; split
 ·exact xu_rng _ _
 omega
def bits : Nat → Int → Int
 | 0, s => s
 | n + 1, s => bitStep (bits n s)
theorem bits_rng {s : Int} (h : 0 ≤ s ∧ s < 4294967296) : ∀ n, 0 ≤ bits n s ∧ bits n s < 4294967296
 | 0 => h
 | n + 1 => bitStep_rng (bits_rng h n)
def byteStep (s : Int) (b : UInt8) : Int := bits 8 (xu s b.toNat)
def sumMore (s : Int) (l : List UInt8) : Int := l.foldl byteStep s
theorem byteStep_rng (s : Int) (b : UInt8) : 0 ≤ byteStep s b ∧ byteStep s b < 4294967296 := bits_rng (xu_rng _ _) 8
theorem sumMore_rng {s : Int} (h : 0 ≤ s ∧ s < 4294967296) (l : List UInt8) : 0 ≤ sumMore s l ∧ sumMore s l < 4294967296 := by
 unfold sumMore
 induction l generalizing s with
 | nil => exact h
 | cons b r ih => exact ih (byteStep_rng s b)
theorem sumMore_step (s : Int) (t : ByteArray) (k : Nat) (h : k < t.size) : sumMore s ((by' t).take (k + 1)) = byteStep (sumMore s ((by' t).take k)) ((t[k]?).getD 0) := by
 unfold sumMore
 rw [by_get, List.getElem?_eq_getElem (by rw [by_size]; exact h), ← List.take_append_getElem (by rw [by_size]; exact h), List.foldl_append]
 rfl
def sumOf (t : ByteArray) : Int := sumMore 4294967295 (by' t)
theorem sumOf_rng (t : ByteArray) : 0 ≤ sumOf t ∧ sumOf t < 4294967296 := sumMore_rng (by omega) _
theorem xu_in (S : Int) (b : UInt8) : Value.int .u32 (IntKind.u32.wrap (BitVec.ofInt IntKind.u32.bits S ^^^ BitVec.ofInt IntKind.u32.bits (IntKind.u32.wrap (b.toNat : Nat))).toNat) = Value.int .u32 (bits 0 (xu S b.toNat)) := by
 have : IntKind.u32.wrap (b.toNat : Nat) = (b.toNat : Nat) := by rw [u32_wrap]; have := b.toNat_lt; omega
 rw [this]; rfl
theorem sum_out (s : Int) (t : ByteArray) (k : Nat) (h : k < t.size) : Value.int .u32 (bits 8 (xu (sumMore s ((by' t).take k)) ((t[k]?).getD 0).toNat)) = Value.int .u32 (sumMore s ((by' t).take (k + 1))) := by
 rw [sumMore_step s t k h]; rfl
theorem and_one {s : Int} (h : 0 ≤ s ∧ s < 4294967296) : IntKind.u32.wrap (BitVec.ofInt IntKind.u32.bits s &&& BitVec.ofInt IntKind.u32.bits 1).toNat = s % 2 := by
 obtain ⟨n, rfl⟩ := Int.eq_ofNat_of_zero_le h.1
 have hn : n < 4294967296 := by omega
 rw [u32_wrap]
 show (((BitVec.ofInt 32 (n : Int) &&& BitVec.ofInt 32 1).toNat : Nat) : Int) % 4294967296 = _
 have e1 : BitVec.ofInt 32 (n : Int) = BitVec.ofNat 32 n := by simp
 have e2 : BitVec.ofInt 32 1 = BitVec.ofNat 32 1 := by decide
 rw [e1, e2, BitVec.toNat_and, BitVec.toNat_ofNat, BitVec.toNat_ofNat, Nat.mod_eq_of_lt (by omega : n < 2 ^ 32)]
 rw [show 1 % 2 ^ 32 = 1 from rfl, Nat.and_one_is_mod]
 omega
theorem bits_succ (j : Nat) (s : Int) : bits (j + 1) s = bitStep (bits j s) := rfl
theorem sum_in (s : Int) (t : ByteArray) : Value.int .u32 s = Value.int .u32 (sumMore s ((by' t).take 0)) := rfl
theorem half_i (B : Int) : B.fdiv (2 ^ min (Int.toNat 1) IntKind.u32.bits) = B / 2 := by
 rw [show (2 : Int) ^ min (Int.toNat 1) IntKind.u32.bits = 2 from by decide, Int.fdiv_eq_ediv_of_nonneg _ (by omega)]
theorem half_s {B : Int} (hB : 0 ≤ B ∧ B < 4294967296) : IntKind.u32.wrap (B.tdiv 2) = B / 2 := by
 rw [Int.tdiv_eq_ediv_of_nonneg hB.1, u32_wrap]; omega
theorem odd_i {B : Int} (h : B % 2 = 1) : Value.int .u32 (IntKind.u32.wrap (BitVec.ofInt IntKind.u32.bits (B.fdiv (2 ^ min (Int.toNat 1) IntKind.u32.bits)) ^^^ BitVec.ofInt IntKind.u32.bits 3558460437).toNat) = Value.int .u32 (bitStep B) := by
 rw [half_i]; unfold bitStep; rw [if_pos h]; rfl
theorem even_i {B : Int} (h : ¬ B % 2 = 1) : Value.int .u32 (B.fdiv (2 ^ min (Int.toNat 1) IntKind.u32.bits)) = Value.int .u32 (bitStep B) := by
 rw [half_i]; unfold bitStep; rw [if_neg h]
theorem odd_s {B : Int} (hB : 0 ≤ B ∧ B < 4294967296) (h : B % 2 = 1) : Value.int .u32 (IntKind.u32.wrap (BitVec.ofInt IntKind.u32.bits (IntKind.u32.wrap (B.tdiv 2)) ^^^ BitVec.ofInt IntKind.u32.bits 3558460437).toNat) = Value.int .u32 (bitStep B) := by
 rw [half_s hB]; unfold bitStep; rw [if_pos h]; rfl
theorem even_s {B : Int} (hB : 0 ≤ B ∧ B < 4294967296) (h : ¬ B % 2 = 1) : Value.int .u32 (IntKind.u32.wrap (B.tdiv 2)) = Value.int .u32 (bitStep B) := by
 rw [half_s hB]; unfold bitStep; rw [if_neg h]
theorem tmod2 {B : Int} (hB : 0 ≤ B ∧ B < 4294967296) : B.tmod 2 = B % 2 := Int.tmod_eq_emod_of_nonneg hB.1
attribute [irreducible] xu bits sumMore
attribute [local irreducible] IntKind.wrap
theorem implSumMore_ct (s : Int) (t : ByteArray) (hs : 0 ≤ s ∧ s < 4294967296) (ht : t.size ≤ 9223372036854775807) :
  Ct prog 330 [.int .u32 s, .string t] [] (fun _ => True) (fun v A => v = .int .u32 (sumMore s (by' t)) ∧ A = []) := by
 refine Ct.intro0 G_ok func330 rfl rfl rfl fun E H hp => ?_
 apply loop_mod (α := (Nat)) G_ok [7, 8, 9, 10, 13, 14, 15, 16, 17, 18, 0, 19, 20, 21, 22, 6, 23, 24, 25, 26, 27, 28, 29, 11, 12, 5] (fun z => [(5, .v (.int .i64 z)), (0, .v (.int .u32 (sumMore s ((by' t).take z))))]) (fun z => []) (fun z => [H]) (fun z => t.size - z) (fun z => z ≤ t.size) (0)
 ·repeat' (first | exact trivial | refine ⟨⟨_, rfl, by first | rfl | exact inc_eq _ (by omega) | (refine sl_eq ?_; simp; done) | exact xu_in _ _ | exact sum_in _ _ | (rw [bits_succ]; exact odd_i ‹_›) | (rw [bits_succ]; exact even_i ‹_›) | (rw [bits_succ]; exact odd_s hB ‹_›) | (rw [bits_succ]; exact even_s hB ‹_›) | exact sum_out s t k (by omega), by first | exact trivial | simp [SV.ok]⟩, ?_⟩)
 ·exact trivial
 ·omega
 ·exact .refl _
 rintro k hI
 obtain hk : k ≤ t.size := hI
 try dsimp only
 refine ⟨fun q0 => ?_, fun q0 => ?_⟩
 ·simp at q0
  have hS := sumMore_rng hs ((by' t).take k)
  have hX := xu_rng (sumMore s ((by' t).take k)) ((t[k]?).getD 0).toNat
  refine VC.intro ?_ ?_
  ·omega
  apply loop_mod (α := (Nat)) G_ok [20, 21, 22, 6, 23, 24, 0, 25, 26, 27, 28, 29, 19] (fun z => [(19, .v (.int .i64 z)), (0, .v (.int .u32 (bits z (xu (sumMore s ((by' t).take k)) ((t[k]?).getD 0).toNat))))]) (fun z => []) (fun z => [H]) (fun z => 8 - z) (fun z => z ≤ 8) (0)
  ·repeat' (first | exact trivial | refine ⟨⟨_, rfl, by first | rfl | exact inc_eq _ (by omega) | (refine sl_eq ?_; simp; done) | exact xu_in _ _ | exact sum_in _ _ | (rw [bits_succ]; exact odd_i ‹_›) | (rw [bits_succ]; exact even_i ‹_›) | (rw [bits_succ]; exact odd_s hB ‹_›) | (rw [bits_succ]; exact even_s hB ‹_›) | exact sum_out s t k (by omega), by first | exact trivial | simp [SV.ok]⟩, ?_⟩)
  ·exact trivial
  ·trivial
  ·exact .refl _
  rintro j hI
  obtain hj : j ≤ 8 := hI
  try dsimp only
  refine ⟨fun q1 => ?_, fun q1 => ?_⟩
  ·simp at q1
   have hB := bits_rng hX j
   refine VC.intro ?_ ?_
   ·trivial
   refine ⟨fun q2 => ?_, fun q2 => ?_⟩
   ·rw [and_one hB] at q2
    simp at q2
    apply loop_stepA (j + 1)
    ·exact .refl _
    ·repeat' (first | exact trivial | refine ⟨⟨_, rfl, by first | rfl | exact inc_eq _ (by omega) | (refine sl_eq ?_; simp; done) | exact xu_in _ _ | exact sum_in _ _ | (rw [bits_succ]; exact odd_i ‹_›) | (rw [bits_succ]; exact even_i ‹_›) | (rw [bits_succ]; exact odd_s hB ‹_›) | (rw [bits_succ]; exact even_s hB ‹_›) | exact sum_out s t k (by omega), by first | exact trivial | simp [SV.ok]⟩, ?_⟩)
    ·exact trivial
    ·omega
    omega
   ·rw [and_one hB] at q2
    simp at q2
    apply loop_stepA (j + 1)
    ·exact .refl _
    ·repeat' (first | exact trivial | refine ⟨⟨_, rfl, by first | rfl | exact inc_eq _ (by omega) | (refine sl_eq ?_; simp; done) | exact xu_in _ _ | exact sum_in _ _ | (rw [bits_succ]; exact odd_i ‹_›) | (rw [bits_succ]; exact even_i ‹_›) | (rw [bits_succ]; exact odd_s hB ‹_›) | (rw [bits_succ]; exact even_s hB ‹_›) | exact sum_out s t k (by omega), by first | exact trivial | simp [SV.ok]⟩, ?_⟩)
    ·exact trivial
    ·omega
    omega
  ·simp at q1
   obtain rfl : j = 8 := by omega
   apply loop_stepA (k + 1)
   ·exact .refl _
   ·repeat' (first | exact trivial | refine ⟨⟨_, rfl, by first | rfl | exact inc_eq _ (by omega) | (refine sl_eq ?_; simp; done) | exact xu_in _ _ | exact sum_in _ _ | (rw [bits_succ]; exact odd_i ‹_›) | (rw [bits_succ]; exact even_i ‹_›) | (rw [bits_succ]; exact odd_s hB ‹_›) | (rw [bits_succ]; exact even_s hB ‹_›) | exact sum_out s t k (by omega), by first | exact trivial | simp [SV.ok]⟩, ?_⟩)
   ·exact trivial
   ·trivial
   omega
 ·simp at q0
  obtain rfl : k = t.size := by omega
  have hF : (by' t).take t.size = by' t := by rw [← by_size, List.take_length]
  exact ⟨[], ⟨by rw [hF], rfl⟩, .mem (by simp)⟩
theorem specSumMore_ct (s : Int) (t : ByteArray) (hs : 0 ≤ s ∧ s < 4294967296) (ht : t.size ≤ 9223372036854775807) :
  Ct prog 275 [.int .u32 s, .string t] [] (fun _ => True) (fun v A => v = .int .u32 (sumMore s (by' t)) ∧ A = []) := by
 refine Ct.intro0 G_ok func275 rfl rfl rfl fun E H hp => ?_
 apply loop_mod (α := (Nat)) G_ok [8, 9, 10, 11, 14, 15, 16, 17, 18, 19, 0, 6, 20, 21, 24, 25, 26, 7, 27, 28, 29, 30, 31, 22, 23, 12, 13, 5] (fun z => [(5, .v (.int .i64 z)), (0, .v (.int .u32 (sumMore s ((by' t).take z))))]) (fun z => []) (fun z => [H]) (fun z => t.size - z) (fun z => z ≤ t.size) (0)
 ·repeat' (first | exact trivial | refine ⟨⟨_, rfl, by first | rfl | exact inc_eq _ (by omega) | (refine sl_eq ?_; simp; done) | exact xu_in _ _ | exact sum_in _ _ | (rw [bits_succ]; exact odd_i ‹_›) | (rw [bits_succ]; exact even_i ‹_›) | (rw [bits_succ]; exact odd_s hB ‹_›) | (rw [bits_succ]; exact even_s hB ‹_›) | exact sum_out s t k (by omega), by first | exact trivial | simp [SV.ok]⟩, ?_⟩)
 ·exact trivial
 ·omega
 ·exact .refl _
 rintro k hI
 obtain hk : k ≤ t.size := hI
 try dsimp only
 refine ⟨fun q0 => ?_, fun q0 => ?_⟩
 ·simp at q0
  have hS := sumMore_rng hs ((by' t).take k)
  have hX := xu_rng (sumMore s ((by' t).take k)) ((t[k]?).getD 0).toNat
  refine VC.intro ?_ ?_
  ·omega
  apply loop_mod (α := (Nat)) G_ok [20, 21, 24, 25, 26, 7, 27, 28, 0, 29, 30, 31, 22, 23, 6] (fun z => [(6, .v (.int .i64 z)), (0, .v (.int .u32 (bits z (xu (sumMore s ((by' t).take k)) ((t[k]?).getD 0).toNat))))]) (fun z => []) (fun z => [H]) (fun z => 8 - z) (fun z => z ≤ 8) (0)
  ·repeat' (first | exact trivial | refine ⟨⟨_, rfl, by first | rfl | exact inc_eq _ (by omega) | (refine sl_eq ?_; simp; done) | exact xu_in _ _ | exact sum_in _ _ | (rw [bits_succ]; exact odd_i ‹_›) | (rw [bits_succ]; exact even_i ‹_›) | (rw [bits_succ]; exact odd_s hB ‹_›) | (rw [bits_succ]; exact even_s hB ‹_›) | exact sum_out s t k (by omega), by first | exact trivial | simp [SV.ok]⟩, ?_⟩)
  ·exact trivial
  ·trivial
  ·exact .refl _
  rintro j hI
  obtain hj : j ≤ 8 := hI
  try dsimp only
  refine ⟨fun q1 => ?_, fun q1 => ?_⟩
  ·simp at q1
   have hB := bits_rng hX j
   refine VC.intro ?_ ?_
   ·trivial
   refine VC.intro ?_ ?_
   ·trivial
   refine ⟨fun q2 => ?_, fun q2 => ?_⟩
   ·rw [tmod2 hB] at q2
    simp at q2
    apply loop_stepA (j + 1)
    ·exact .refl _
    ·repeat' (first | exact trivial | refine ⟨⟨_, rfl, by first | rfl | exact inc_eq _ (by omega) | (refine sl_eq ?_; simp; done) | exact xu_in _ _ | exact sum_in _ _ | (rw [bits_succ]; exact odd_i ‹_›) | (rw [bits_succ]; exact even_i ‹_›) | (rw [bits_succ]; exact odd_s hB ‹_›) | (rw [bits_succ]; exact even_s hB ‹_›) | exact sum_out s t k (by omega), by first | exact trivial | simp [SV.ok]⟩, ?_⟩)
    ·exact trivial
    ·omega
    omega
   ·rw [tmod2 hB] at q2
    simp at q2
    apply loop_stepA (j + 1)
    ·exact .refl _
    ·repeat' (first | exact trivial | refine ⟨⟨_, rfl, by first | rfl | exact inc_eq _ (by omega) | (refine sl_eq ?_; simp; done) | exact xu_in _ _ | exact sum_in _ _ | (rw [bits_succ]; exact odd_i ‹_›) | (rw [bits_succ]; exact even_i ‹_›) | (rw [bits_succ]; exact odd_s hB ‹_›) | (rw [bits_succ]; exact even_s hB ‹_›) | exact sum_out s t k (by omega), by first | exact trivial | simp [SV.ok]⟩, ?_⟩)
    ·exact trivial
    ·omega
    omega
  ·simp at q1
   obtain rfl : j = 8 := by omega
   apply loop_stepA (k + 1)
   ·exact .refl _
   ·repeat' (first | exact trivial | refine ⟨⟨_, rfl, by first | rfl | exact inc_eq _ (by omega) | (refine sl_eq ?_; simp; done) | exact xu_in _ _ | exact sum_in _ _ | (rw [bits_succ]; exact odd_i ‹_›) | (rw [bits_succ]; exact even_i ‹_›) | (rw [bits_succ]; exact odd_s hB ‹_›) | (rw [bits_succ]; exact even_s hB ‹_›) | exact sum_out s t k (by omega), by first | exact trivial | simp [SV.ok]⟩, ?_⟩)
   ·exact trivial
   ·trivial
   omega
 ·simp at q0
  obtain rfl : k = t.size := by omega
  have hF : (by' t).take t.size = by' t := by rw [← by_size, List.take_length]
  exact ⟨[], ⟨by rw [hF], rfl⟩, .mem (by simp)⟩
end
section
attribute [local irreducible] IntKind.wrap
theorem implSumOf_ct (t : ByteArray) (ht : t.size ≤ 9223372036854775807) : Ct prog 253 [.string t] [] (fun _ => True) (fun v A => v = .int .u32 (sumOf t) ∧ A = []) := by
 refine Ct.intro0 G_ok func253 rfl rfl rfl fun E H hp => ?_
 refine call_val (implSumMore_ct _ _ ?_ ?_) trivial ?_
 ·trivial
 ·trivial
 rintro _ rfl
 exact ⟨[], ⟨rfl, rfl⟩, .mem (by simp)⟩
theorem specSumOf_ct (t : ByteArray) (ht : t.size ≤ 9223372036854775807) : Ct prog 192 [.string t] [] (fun _ => True) (fun v A => v = .int .u32 (sumOf t) ∧ A = []) := by
 refine Ct.intro0 G_ok func192 rfl rfl rfl fun E H hp => ?_
 refine call_val (specSumMore_ct _ _ ?_ ?_) trivial ?_
 ·trivial
 ·trivial
 rintro _ rfl
 exact ⟨[], ⟨rfl, rfl⟩, .mem (by simp)⟩
def varL : Nat → Nat → List UInt8
 | 0, n => [UInt8.ofNat n]
 | f + 1, n => if 127 < n then UInt8.ofNat (128 + n % 128) :: varL f (n / 128) else [UInt8.ofNat n]
def varT (n : Int) : List UInt8 := varL 9 n.toNat
def varText (n : Int) : ByteArray := tx (varT n)
theorem varL_len : ∀ f n, (varL f n).length ≤ f + 1
 | 0, n => by simp [varL]
 | f + 1, n => by
  unfold varL; split
  ·have := varL_len f (n / 128); simp only [List.length_cons]; omega
  simp
theorem varL_low (f n : Nat) (h : n ≤ 127) : varL f n = [UInt8.ofNat n] := by
 cases f with
 | zero => rfl
 | succ f => unfold varL; rw [if_neg (by omega)]
theorem varText_size (n : Int) : (varText n).size ≤ 10 := by
 rw [← by_size]; unfold varText; rw [by_tx]; exact varL_len 9 _
theorem var_b1 (q : Nat) : UInt8.ofNat (IntKind.i64.wrap (128 + (q : Int).tmod 128) % 256).toNat = UInt8.ofNat (128 + q % 128) := by
 rw [Int.tmod_eq_emod_of_nonneg (by omega), wrap_of (by omega) (by omega)]; congr 1; omega
theorem var_b1' (q : Nat) : UInt8.ofNat (IntKind.i64.wrap ((q : Int).tmod 128 + 128) % 256).toNat = UInt8.ofNat (128 + q % 128) := by
 rw [Int.tmod_eq_emod_of_nonneg (by omega), wrap_of (by omega) (by omega)]; congr 1; omega
theorem var_b2 (q : Nat) (h : q ≤ 127) : UInt8.ofNat ((q : Int) % 256).toNat = UInt8.ofNat q := by congr 1; omega
theorem var_q (q : Nat) (h : q ≤ 4611686018427387904) : Value.int .i64 (IntKind.i64.wrap ((q : Int).tdiv 128)) = Value.int .i64 ((q / 128 : Nat) : Int) := by
 rw [Int.tdiv_eq_ediv_of_nonneg (by omega), wrap_of (by omega) (by omega)]; congr 1
theorem pow128 (f q : Nat) (h : q < 128 ^ (f + 1)) (h1 : 127 < q) : ∃ f', f = f' + 1 := by
 cases f with
 | zero => simp at h; omega
 | succ f' => exact ⟨f', rfl⟩
theorem varText_ct (n : Int) (h0 : 0 ≤ n) (h1 : n ≤ 4611686018427387904) : Ct prog 254 [.int .i64 n] [] (fun _ => True) (fun v A => v = .string (varText n) ∧ A = []) := by
 refine Ct.intro0 G_ok func254 rfl rfl rfl fun E H hp => ?_
 apply loop_mod (α := (Nat) × (Nat) × (List UInt8) × (Hp) × (Option Addr) × (Nat)) G_ok [4, 5, 6, 7, 8, 9, 10, 11, 12, 3, 13, 14, 0] (fun z => [(3, .v (.slice z.2.2.2.2.1 z.2.2.1.length z.2.2.2.2.2)), (0, .v (.int .i64 z.2.1))]) (fun z => []) (fun z => [z.2.2.2.1, H]) (fun z => z.2.1) (fun z => (gSl 5 gY).ow [.slice z.2.2.2.2.1 z.2.2.1.length z.2.2.2.2.2] z.2.2.1 z.2.2.2.1 ∧ z.2.2.1 ++ varL z.1 z.2.1 = varT n ∧ z.2.1 < 128 ^ (z.1 + 1) ∧ z.2.2.1.length + z.1 ≤ 9 ∧ z.2.1 ≤ 4611686018427387904) ((9, n.toNat, [], [], none, 0))
 ·repeat' (first | exact trivial | refine ⟨⟨_, rfl, by first | rfl | exact inc_eq _ (by omega) | (refine sl_eq ?_; simp; done) | (refine svi_eq ?_; (try dsimp only); omega) | exact var_q q (by omega), by first | exact trivial | simp [SV.ok]⟩, ?_⟩)
 ·exact trivial
 ·try dsimp only
  exact ⟨sl_nil _ _ _, rfl, by omega, by simp, by omega⟩
 ·exact .refl _
 rintro ⟨f, q, o, A, b, c⟩ hI
 try dsimp only at hI
 obtain ⟨oo, hv, hq, hl, hm⟩ := hI
 try dsimp only
 refine ⟨fun q0 => ?_, fun q0 => ?_⟩
 ·simp at q0
  obtain ⟨f, rfl⟩ := pow128 f q hq (by omega)
  refine VC.intro ?_ ?_
  ·trivial
  refine ⟨fun x1 => ?_⟩
  refine gappend1 (g := gY) (T := (5 : TypeId)) G_ok A [] [H] ?_ oo (gY_owM _) (List.mem_of_getElem? (i := 0) rfl) rfl rfl rfl rfl rfl rfl rfl rfl ?_ fun b2 c2 A2 o2 => ?_
  ·exact .tl
  ·omega
  refine VC.intro ?_ ?_
  ·trivial
  apply loop_stepA (f, q / 128, _, _, _, _)
  ·exact .refl _
  ·repeat' (first | exact trivial | refine ⟨⟨_, rfl, by first | rfl | exact inc_eq _ (by omega) | (refine sl_eq ?_; simp; done) | (refine svi_eq ?_; (try dsimp only); omega) | exact var_q q (by omega), by first | exact trivial | simp [SV.ok]⟩, ?_⟩)
  ·exact trivial
  ·try dsimp only
   exact ⟨‹_›, by rw [var_b1, ← hv]; (conv => rhs; unfold varL; rw [if_pos (by omega)]); rw [List.append_assoc, List.singleton_append], by rw [Nat.pow_succ] at hq; omega, by simp; omega, by omega⟩
  try dsimp only
  omega
 ·simp at q0
  refine ⟨fun x3 => ?_⟩
  refine gappend1 (g := gY) (T := (5 : TypeId)) G_ok A [] [H] ?_ oo (gY_owM _) (List.mem_of_getElem? (i := 0) rfl) rfl rfl rfl rfl rfl rfl rfl rfl ?_ fun b4 c4 A4 o4 => ?_
  ·exact .tl
  ·omega
  refine conv_bs G_ok (o ++ [UInt8.ofNat ((↑q : Int) % (256 : Int)).toNat]) rfl (Rp.mono _ (mem_at 0 rfl) (Gt.owrd _ o4)) rfl rfl rfl ?_
  exact ⟨[], ⟨by rw [var_b2 q (by omega), ← varL_low f q (by omega), hv]; rfl, rfl⟩, .mem (by simp)⟩
theorem l01Var_ct (n : Int) (h0 : 0 ≤ n) (h1 : n ≤ 4611686018427387904) : Ct prog 193 [.int .i64 n] [] (fun _ => True) (fun v A => v = .string (varText n) ∧ A = []) := by
 refine Ct.intro0 G_ok func193 rfl rfl rfl fun E H hp => ?_
 refine ⟨fun x0 => ?_⟩
 apply loop_mod (α := (Nat) × (Nat) × (List UInt8) × (Hp) × (Option Addr) × (Nat)) G_ok [5, 6, 7, 8, 9, 10, 11, 12, 13, 3, 14, 15, 0] (fun z => [(3, .v (.slice z.2.2.2.2.1 z.2.2.1.length z.2.2.2.2.2)), (0, .v (.int .i64 z.2.1))]) (fun z => []) (fun z => [z.2.2.2.1, H]) (fun z => z.2.1) (fun z => (gSl 5 gY).ow [.slice z.2.2.2.2.1 z.2.2.1.length z.2.2.2.2.2] z.2.2.1 z.2.2.2.1 ∧ z.2.2.1 ++ varL z.1 z.2.1 = varT n ∧ z.2.1 < 128 ^ (z.1 + 1) ∧ z.2.2.1.length + z.1 ≤ 9 ∧ z.2.1 ≤ 4611686018427387904) ((9, n.toNat, [], [], some ⟨x0, 0, none⟩, 0))
 ·repeat' (first | exact trivial | refine ⟨⟨_, rfl, by first | rfl | exact inc_eq _ (by omega) | (refine sl_eq ?_; simp; done) | (refine svi_eq ?_; (try dsimp only); omega) | exact var_q q (by omega), by first | exact trivial | simp [SV.ok]⟩, ?_⟩)
 ·exact trivial
 ·try dsimp only
  exact ⟨sl_nil _ _ _, rfl, by omega, by simp, by omega⟩
 ·exact .tl
 rintro ⟨f, q, o, A, b, c⟩ hI
 try dsimp only at hI
 obtain ⟨oo, hv, hq, hl, hm⟩ := hI
 try dsimp only
 refine ⟨fun q1 => ?_, fun q1 => ?_⟩
 ·simp at q1
  obtain ⟨f, rfl⟩ := pow128 f q hq (by omega)
  refine VC.intro ?_ ?_
  ·trivial
  refine ⟨fun x2 => ?_⟩
  refine gappend1 (g := gY) (T := (5 : TypeId)) G_ok A [] [H] ?_ oo (gY_owM _) (List.mem_of_getElem? (i := 0) rfl) rfl rfl rfl rfl rfl rfl rfl rfl ?_ fun b3 c3 A3 o3 => ?_
  ·exact .tl
  ·omega
  refine VC.intro ?_ ?_
  ·trivial
  apply loop_stepA (f, q / 128, _, _, _, _)
  ·exact .refl _
  ·repeat' (first | exact trivial | refine ⟨⟨_, rfl, by first | rfl | exact inc_eq _ (by omega) | (refine sl_eq ?_; simp; done) | (refine svi_eq ?_; (try dsimp only); omega) | exact var_q q (by omega), by first | exact trivial | simp [SV.ok]⟩, ?_⟩)
  ·exact trivial
  ·try dsimp only
   exact ⟨‹_›, by rw [var_b1', ← hv]; (conv => rhs; unfold varL; rw [if_pos (by omega)]); rw [List.append_assoc, List.singleton_append], by rw [Nat.pow_succ] at hq; omega, by simp; omega, by omega⟩
  try dsimp only
  omega
 ·simp at q1
  refine ⟨fun x4 => ?_⟩
  refine gappend1 (g := gY) (T := (5 : TypeId)) G_ok A [] [H] ?_ oo (gY_owM _) (List.mem_of_getElem? (i := 0) rfl) rfl rfl rfl rfl rfl rfl rfl rfl ?_ fun b5 c5 A5 o5 => ?_
  ·exact .tl
  ·omega
  refine conv_bs G_ok (o ++ [UInt8.ofNat ((↑q : Int) % (256 : Int)).toNat]) rfl (Rp.mono _ (mem_at 0 rfl) (Gt.owrd _ o5)) rfl rfl rfl ?_
  exact ⟨[], ⟨by rw [var_b2 q (by omega), ← varL_low f q (by omega), hv]; rfl, rfl⟩, .mem (by simp)⟩
end
section
attribute [local irreducible] IntKind.wrap
def cmpI (a b : Int) : Int := if a < b then -1 else if b < a then 1 else 0
def cmpL : List Int → List Int → Int
 | [], [] => 0
 | [], _ :: _ => -1
 | _ :: _, [] => 1
 | a :: r, b :: s => if a < b then -1 else if b < a then 1 else cmpL r s
theorem isNaN_ct (a : Int) : Ct prog 342 [.int .i64 a] [] (fun _ => True) (fun v A => v = .bool false ∧ A = []) := by
 refine Ct.intro0 G_ok func342 rfl rfl rfl fun E H hp => ?_
 exact ⟨[], ⟨by simp, rfl⟩, .mem (by simp)⟩
theorem cmpCompare_ct (a b : Int) : Ct prog 263 [.int .i64 a, .int .i64 b] [] (fun _ => True) (fun v A => v = .int .i64 (cmpI a b) ∧ A = []) := by
 refine Ct.intro0 G_ok func263 rfl rfl rfl fun E H hp => ?_
 refine call_val (isNaN_ct _) trivial ?_
 rintro _ rfl
 refine call_val (isNaN_ct _) trivial ?_
 rintro _ rfl
 refine ⟨fun q2 => ?_, fun q2 => ?_⟩
 ·simp at q2
 ·simp at q2
  refine ⟨fun q3 => ?_, fun q3 => ?_⟩
  ·simp at q3
  ·simp at q3
   refine ⟨fun q4 => ?_, fun q4 => ?_⟩
   ·simp at q4
    exact ⟨[], ⟨by unfold cmpI; rw [if_pos (by omega)], rfl⟩, .mem (by simp)⟩
   ·simp at q4
    refine ⟨fun q5 => ?_, fun q5 => ?_⟩
    ·simp at q5
     exact ⟨[], ⟨by unfold cmpI; rw [if_neg (by omega), if_pos (by omega)], rfl⟩, .mem (by simp)⟩
    ·simp at q5
     exact ⟨[], ⟨by unfold cmpI; rw [if_neg (by omega), if_neg (by omega)], rfl⟩, .mem (by simp)⟩
theorem cmpL_drop {xs ys : List Int} (k : Nat) (h1 : k < xs.length) (h2 : k < ys.length) :
  cmpL (xs.drop k) (ys.drop k) = if cmpI (xs[k]?.getD 0) (ys[k]?.getD 0) = 0 then cmpL (xs.drop (k + 1)) (ys.drop (k + 1)) else cmpI (xs[k]?.getD 0) (ys[k]?.getD 0) := by
 rw [List.drop_eq_getElem_cons h1, List.drop_eq_getElem_cons h2, List.getElem?_eq_getElem h1, List.getElem?_eq_getElem h2]
 simp only [Option.getD_some, cmpL, cmpI]
 split
 ·simp
 split
 ·simp
 simp
theorem sCompare_ct (b1 : Option Addr) (m1 c1 : Nat) (b2 : Option Addr) (m2 c2 : Nat) (xs ys : List Int) :
  Ct prog 179 [.slice b1 m1 c1, .slice b2 m2 c2] [] (fun H => (gSl 3 gI).rd H [.slice b1 m1 c1] xs ∧ (gSl 3 gI).rd H [.slice b2 m2 c2] ys) (fun v A => v = .int .i64 (cmpL xs ys) ∧ A = []) := by
 refine Ct.intro0 G_ok func179 rfl rfl rfl fun E H hp => ?_
 obtain ⟨hp1, hp2⟩ := hp
 obtain ⟨rfl, hc1, hl1⟩ := sl_len hp1
 obtain ⟨rfl, hc2, hl2⟩ := sl_len hp2
 apply loop_mod (α := (Nat)) G_ok [12, 13, 14, 15, 5, 6, 16, 17, 18, 19, 4, 20, 21, 22, 23, 7, 24, 25, 26, 8, 27, 28, 29, 30, 11] (fun z => [(11, .v (.int .i64 z))]) (fun z => []) (fun z => [H]) (fun z => xs.length - z) (fun z => z ≤ xs.length ∧ z ≤ ys.length ∧ cmpL xs ys = cmpL (xs.drop z) (ys.drop z)) (0)
 ·exact frI
 ·exact trivial
 ·exact ⟨by omega, by omega, by simp⟩
 ·exact .refl _
 rintro k hI
 try dsimp only at hI
 obtain ⟨hk, hk2, he⟩ := hI
 try dsimp only
 refine ⟨fun q0 => ?_, fun q0 => ?_⟩
 ·simp at q0
  refine idx_rd hp1 ?_ ?_ fun b1 o1 hb1 => ?_
  ·omega
  ·omega
  refine load_allN 0 (k) rfl hp1 ?_ ?_ hb1 rfl (mem_at 0 rfl) fun l2 hl2 => ?_
  ·omega
  ·omega
  obtain ⟨rfl, hw2⟩ := hl2; simp only [flStr, flInt, okI] at hw2
  refine ⟨fun q3 => ?_, fun q3 => ?_⟩
  ·simp at q3
   exact ⟨[], ⟨by rw [he, List.drop_eq_getElem_cons (by omega : k < xs.length), List.drop_eq_nil_of_le (by omega : ys.length ≤ k)]; rfl, rfl⟩, .mem (by simp)⟩
  ·simp at q3
   refine idx_rd hp2 ?_ ?_ fun b4 o4 hb4 => ?_
   ·omega
   ·omega
   refine load_allN 0 (k) rfl hp2 ?_ ?_ hb4 rfl (mem_at 0 rfl) fun l5 hl5 => ?_
   ·omega
   ·omega
   obtain ⟨rfl, hw5⟩ := hl5; simp only [flStr, flInt, okI] at hw5
   refine call_val (cmpCompare_ct _ _) trivial ?_
   rintro _ rfl
   refine ⟨fun q7 => ?_, fun q7 => ?_⟩
   ·simp at q7
    exact ⟨[], ⟨by rw [he, cmpL_drop k (by omega) (by omega), if_neg (by assumption)], rfl⟩, .mem (by simp)⟩
   ·simp at q7
    apply loop_stepA (k + 1)
    ·exact .refl _
    ·exact frI
    ·exact trivial
    ·exact ⟨by omega, by omega, by rw [he, cmpL_drop k (by omega) (by omega), if_pos (by assumption)]⟩
    omega
 ·simp at q0
  refine ⟨fun q8 => ?_, fun q8 => ?_⟩
  ·simp at q8
   exact ⟨[], ⟨by rw [he, List.drop_eq_getElem_cons (by omega : k < ys.length), List.drop_eq_nil_of_le (by omega : xs.length ≤ k)]; rfl, rfl⟩, .mem (by simp)⟩
  ·simp at q8
   exact ⟨[], ⟨by rw [he, List.drop_eq_nil_of_le (by omega : ys.length ≤ k), List.drop_eq_nil_of_le (by omega : xs.length ≤ k)]; rfl, rfl⟩, .mem (by simp)⟩
def labelOk (b : UInt8) : Bool := decide (97 ≤ (b.toNat : Int)) && decide ((b.toNat : Int) ≤ 100)
theorem isLabel_ct (b : UInt8) : Ct prog 198 [.int .u8 b.toNat] [] (fun _ => True) (fun v A => v = .bool (labelOk b) ∧ A = []) := by
 refine Ct.intro0 G_ok func198 rfl rfl rfl fun E H hp => ?_
 refine ⟨fun q0 => ?_, fun q0 => ?_⟩
 ·simp at q0
  exact ⟨[], ⟨by unfold labelOk; first | rw [decide_eq_true (by omega : (97 : Int) ≤ b.toNat), Bool.true_and] | rw [decide_eq_false (by omega : ¬ (97 : Int) ≤ b.toNat), Bool.false_and], rfl⟩, .mem (by simp)⟩
 ·simp at q0
  exact ⟨[], ⟨by unfold labelOk; first | rw [decide_eq_true (by omega : (97 : Int) ≤ b.toNat), Bool.true_and] | rw [decide_eq_false (by omega : ¬ (97 : Int) ≤ b.toNat), Bool.false_and], rfl⟩, .mem (by simp)⟩
end
section
attribute [local irreducible] IntKind.wrap
def allK (p : Nat → Bool) : Nat → Bool
 | 0 => true
 | k + 1 => allK p k && p k
theorem allK_no {p : Nat → Bool} {k : Nat} (h : p k = false) : ∀ n, k < n → allK p n = false
 | 0, h1 => by omega
 | n + 1, h1 => by
  unfold allK
  rcases Nat.lt_or_ge k n with h2 | h2
  ·rw [allK_no h n h2]; rfl
  rw [show n = k by omega, h]; simp
theorem allK_step {p : Nat → Bool} {k : Nat} (h : allK p k = true) (h1 : p k = true) : allK p (k + 1) = true := by unfold allK; rw [h, h1]; rfl
theorem allK_at {p : Nat → Bool} : ∀ {n : Nat}, allK p n = true → ∀ k, k < n → p k = true
 | 0, _, k, hk => by omega
 | n + 1, h, k, hk => by
  unfold allK at h
  rw [Bool.and_eq_true] at h
  rcases Nat.lt_or_ge k n with h1 | h1
  ·exact allK_at h.1 k h1
  rw [show k = n by omega]; exact h.2
theorem cmpI_zero {a b : Int} : cmpI a b = 0 ↔ a = b := by
 unfold cmpI; split
 ·omega
 split <;> omega
theorem cmpI_neg {a b : Int} : cmpI a b < 0 ↔ a < b := by
 unfold cmpI; split
 ·omega
 split <;> omega
theorem cmpL_end {xs ys : List Int} {k : Nat} (h : xs.length ≤ k ∨ ys.length ≤ k) (h1 : k ≤ xs.length) (h2 : k ≤ ys.length) : decide (cmpL (xs.drop k) (ys.drop k) < 0) = decide (xs.length < ys.length) := by
 rcases Nat.lt_or_ge k xs.length with h3 | h3
 ·rw [List.drop_eq_nil_of_le (by omega : ys.length ≤ k), List.drop_eq_getElem_cons h3, decide_eq_decide]
  simp only [cmpL]; omega
 rw [List.drop_eq_nil_of_le h3]
 rcases Nat.lt_or_ge k ys.length with h4 | h4
 ·rw [List.drop_eq_getElem_cons h4, decide_eq_decide]; simp only [cmpL]; omega
 rw [List.drop_eq_nil_of_le h4, decide_eq_decide]; simp only [cmpL]; omega
theorem cmpL_go {xs ys : List Int} {k : Nat} (h1 : k < xs.length) (h2 : k < ys.length) (h : ¬ (xs[k]?.getD 0) = (ys[k]?.getD 0)) : decide (cmpL (xs.drop k) (ys.drop k) < 0) = decide ((xs[k]?.getD 0) < (ys[k]?.getD 0)) := by
 rw [cmpL_drop k h1 h2, if_neg (by rw [cmpI_zero]; exact h), decide_eq_decide]; exact cmpI_neg
theorem cmpL_eq {xs ys : List Int} {k : Nat} (h1 : k < xs.length) (h2 : k < ys.length) (h : (xs[k]?.getD 0) = (ys[k]?.getD 0)) : cmpL (xs.drop k) (ys.drop k) = cmpL (xs.drop (k + 1)) (ys.drop (k + 1)) := by
 rw [cmpL_drop k h1 h2, if_pos (by rw [cmpI_zero]; exact h)]
def rowLess (a b : List Int) : Bool := decide (cmpL a b < 0)
def rowM (r : List Int) : Bool := decide (r.length ≤ 4) && allK (fun i => inR 0 99 (r[i]?.getD 0)) r.length
def rowAt (b : Bag) (i : Nat) : List Int := (b.items[i]?.getD default).row
def itemM (b : Bag) (i : Nat) : Bool :=
 rowM (rowAt b i) && (inR 1 1000000 (b.items[i]?.getD default).times && (decide ((rowAt b i).length = (rowAt b 0).length) && (decide (i = 0) || rowLess (rowAt b (i - 1)) (rowAt b i))))
def bagM (b : Bag) : Bool := decide (b.items.length ≤ 300) && allK (itemM b) b.items.length
theorem rowM_no {r : List Int} {k : Nat} (h1 : k < r.length) (h : ¬ (0 ≤ (r[k]?.getD 0) ∧ (r[k]?.getD 0) ≤ 99)) : rowM r = false := by
 unfold rowM; rw [allK_no (p := fun i => inR 0 99 (r[i]?.getD 0)) (k := k) (by rw [← Bool.not_eq_true, inR_iff]; exact h) _ h1]; simp
theorem rowM_long {r : List Int} (h : ¬ r.length ≤ 4) : rowM r = false := by unfold rowM; rw [decide_eq_false h]; rfl
theorem rowM_yes {r : List Int} (h : r.length ≤ 4) (h2 : allK (fun i => inR 0 99 (r[i]?.getD 0)) r.length = true) : rowM r = true := by unfold rowM; rw [h2, decide_eq_true h]; rfl
theorem bagM_no {b : Bag} {k : Nat} (h1 : k < b.items.length) (h : itemM b k = false) : bagM b = false := by unfold bagM; rw [allK_no h _ h1]; simp
theorem bagM_long {b : Bag} (h : ¬ b.items.length ≤ 300) : bagM b = false := by unfold bagM; rw [decide_eq_false h]; rfl
theorem bagM_yes {b : Bag} (h : b.items.length ≤ 300) (h2 : allK (itemM b) b.items.length = true) : bagM b = true := by unfold bagM; rw [h2, decide_eq_true h]; rfl
theorem itemM_len {b : Bag} {i : Nat} (h : itemM b i = true) : (rowAt b i).length = (rowAt b 0).length := by
 unfold itemM at h; simp only [Bool.and_eq_true, decide_eq_true_iff] at h; exact h.2.2.1
theorem item_no1 {b : Bag} {i : Nat} (h : rowM (rowAt b i) = false) : itemM b i = false := by unfold itemM; rw [h]; rfl
theorem item_no2 {b : Bag} {i : Nat} (h : ¬ (1 ≤ (b.items[i]?.getD default).times ∧ (b.items[i]?.getD default).times ≤ 1000000)) : itemM b i = false := by
 unfold itemM; rw [show inR 1 1000000 (b.items[i]?.getD default).times = false by rw [← Bool.not_eq_true, inR_iff]; exact h]; simp
theorem item_no3 {b : Bag} {i : Nat} (h : ¬ (rowAt b i).length = (rowAt b 0).length) : itemM b i = false := by unfold itemM; rw [decide_eq_false h]; simp
theorem item_no4 {b : Bag} {i : Nat} (h0 : ¬ i = 0) (h : rowLess (rowAt b (i - 1)) (rowAt b i) = false) : itemM b i = false := by unfold itemM; rw [h, decide_eq_false h0]; simp
theorem item_yes {b : Bag} {i : Nat} (h1 : rowM (rowAt b i) = true) (h2 : 1 ≤ (b.items[i]?.getD default).times ∧ (b.items[i]?.getD default).times ≤ 1000000) (h3 : (rowAt b i).length = (rowAt b 0).length) (h4 : i = 0 ∨ rowLess (rowAt b (i - 1)) (rowAt b i) = true) : itemM b i = true := by
 unfold itemM; rw [h1, decide_eq_true h3, show inR 1 1000000 (b.items[i]?.getD default).times = true from inR_iff.2 h2]
 rcases h4 with h4 | h4
 ·rw [decide_eq_true h4]; rfl
 rw [h4]; simp
theorem implRowLess_ct (b1 : Option Addr) (m1 c1 : Nat) (b2 : Option Addr) (m2 c2 : Nat) (xs ys : List Int) :
  Ct prog 300 [.slice b1 m1 c1, .slice b2 m2 c2] [] (fun H => (gSl 3 gI).rd H [.slice b1 m1 c1] xs ∧ (gSl 3 gI).rd H [.slice b2 m2 c2] ys) (fun v A => v = .bool (rowLess xs ys) ∧ A = []) := by
 refine Ct.intro0 G_ok func300 rfl rfl rfl fun E H hp => ?_
 obtain ⟨hp1, hp2⟩ := hp
 obtain ⟨rfl, hc1, hl1⟩ := sl_len hp1
 obtain ⟨rfl, hc2, hl2⟩ := sl_len hp2
 refine call_val (sCompare_ct _ _ _ _ _ _ (xs) (ys)) ⟨(Rp.mono _ (mem_at 0 rfl) hp1), (Rp.mono _ (mem_at 0 rfl) hp2)⟩ ?_
 rintro _ rfl
 exact ⟨[], ⟨rfl, rfl⟩, .mem (by simp)⟩
theorem specRowLess_ct (b1 : Option Addr) (m1 c1 : Nat) (b2 : Option Addr) (m2 c2 : Nat) (xs ys : List Int) :
  Ct prog 155 [.slice b1 m1 c1, .slice b2 m2 c2] [] (fun H => (gSl 3 gI).rd H [.slice b1 m1 c1] xs ∧ (gSl 3 gI).rd H [.slice b2 m2 c2] ys) (fun v A => v = .bool (rowLess xs ys) ∧ A = []) := by
 refine Ct.intro0 G_ok func155 rfl rfl rfl fun E H hp => ?_
 obtain ⟨hp1, hp2⟩ := hp
 obtain ⟨rfl, hc1, hl1⟩ := sl_len hp1
 obtain ⟨rfl, hc2, hl2⟩ := sl_len hp2
 apply loop_mod (α := (Nat)) G_ok [6, 7, 8, 9, 10, 11, 12, 13, 14, 15, 18, 19, 20, 21, 22, 23, 24, 25, 26, 27, 28, 29, 30, 31, 32, 33, 34, 35, 4, 16, 17, 5] (fun z => [(5, .v (.int .i64 z))]) (fun z => []) (fun z => [H]) (fun z => xs.length - z) (fun z => z ≤ xs.length ∧ z ≤ ys.length ∧ cmpL xs ys = cmpL (xs.drop z) (ys.drop z)) (0)
 ·exact frI
 ·exact trivial
 ·exact ⟨by omega, by omega, by simp⟩
 ·exact .refl _
 rintro k hI
 try dsimp only at hI
 obtain ⟨hk, hk2, he⟩ := hI
 try dsimp only
 refine ⟨fun q0 => ?_, fun q0 => ?_⟩
 ·simp at q0
  refine ⟨fun q1 => ?_, fun q1 => ?_⟩
  ·simp at q1
   refine draw G_ok mixed none (.q 0 (.q 1 (.q 2 (.q 3 (.q 4 (.q 5 (.q 6 (.q 7 (.q 8 (.nil)))))))))) (by decide +kernel) ?_
   refine idx_rd hp1 ?_ ?_ fun b2 o2 hb2 => ?_
   ·omega
   ·omega
   refine load_allN 0 (k) rfl hp1 ?_ ?_ hb2 rfl (mem_at 0 rfl) fun l3 hl3 => ?_
   ·omega
   ·omega
   obtain ⟨rfl, hw3⟩ := hl3; simp only [flStr, flInt, okI] at hw3
   refine idx_rd hp2 ?_ ?_ fun b4 o4 hb4 => ?_
   ·omega
   ·omega
   refine load_allN 0 (k) rfl hp2 ?_ ?_ hb4 rfl (mem_at 0 rfl) fun l5 hl5 => ?_
   ·omega
   ·omega
   obtain ⟨rfl, hw5⟩ := hl5; simp only [flStr, flInt, okI] at hw5
   refine ⟨fun q6 => ?_, fun q6 => ?_⟩
   ·simp at q6
    refine draw G_ok mixed none (.q 0 (.q 1 (.q 2 (.q 3 (.q 4 (.q 5 (.q 6 (.q 7 (.q 8 (.q 9 (.nil))))))))))) (by decide +kernel) ?_
    refine idx_rd hp1 ?_ ?_ fun b7 o7 hb7 => ?_
    ·omega
    ·omega
    refine load_allN 0 (k) rfl hp1 ?_ ?_ hb7 rfl (mem_at 0 rfl) fun l8 hl8 => ?_
    ·omega
    ·omega
    obtain ⟨rfl, hw8⟩ := hl8; simp only [flStr, flInt, okI] at hw8
    refine idx_rd hp2 ?_ ?_ fun b9 o9 hb9 => ?_
    ·omega
    ·omega
    refine load_allN 0 (k) rfl hp2 ?_ ?_ hb9 rfl (mem_at 0 rfl) fun l10 hl10 => ?_
    ·omega
    ·omega
    obtain ⟨rfl, hw10⟩ := hl10; simp only [flStr, flInt, okI] at hw10
    exact ⟨[], ⟨by unfold rowLess; rw [he, cmpL_go (by omega) (by omega) ‹¬ _ = _›], rfl⟩, .mem (by simp)⟩
   ·simp at q6
    apply loop_stepA (k + 1)
    ·exact .refl _
    ·exact frI
    ·exact trivial
    ·exact ⟨by omega, by omega, by rw [he, cmpL_eq (by omega) (by omega) ‹_ = _›]⟩
    omega
  ·simp at q1
   exact ⟨[], ⟨by unfold rowLess; rw [he, cmpL_end (by omega) (by omega) (by omega)]; congr 1; rw [decide_eq_decide]; omega, rfl⟩, .mem (by simp)⟩
 ·simp at q0
  exact ⟨[], ⟨by unfold rowLess; rw [he, cmpL_end (by omega) (by omega) (by omega)]; congr 1; rw [decide_eq_decide]; omega, rfl⟩, .mem (by simp)⟩
theorem implRowOk_ct (b : Option Addr) (m c : Nat) (r : List Int) :
  Ct prog 165 [.slice b m c] [] (fun H => (gSl 3 gI).rd H [.slice b m c] r) (fun v A => v = .bool (rowM r) ∧ A = []) := by
 refine Ct.intro0 G_ok func165 rfl rfl rfl fun E H hp => ?_
 obtain ⟨rfl, hc1, hl1⟩ := sl_len hp
 refine ⟨fun q0 => ?_, fun q0 => ?_⟩
 ·simp at q0
  exact ⟨[], ⟨by rw [rowM_long (by omega)], rfl⟩, .mem (by simp)⟩
 ·simp at q0
  apply loop_mod (α := (Nat)) G_ok [11, 12, 13, 4, 14, 15, 16, 17, 18, 19, 2, 20, 10] (fun z => [(10, .v (.int .i64 z))]) (fun z => []) (fun z => [H]) (fun z => r.length - z) (fun z => z ≤ r.length ∧ allK (fun i => inR 0 99 (r[i]?.getD 0)) z = true) (0)
  ·exact frI
  ·exact trivial
  ·exact ⟨by omega, rfl⟩
  ·exact .refl _
  rintro k hI
  try dsimp only at hI
  obtain ⟨hk, ha⟩ := hI
  try dsimp only
  refine ⟨fun q1 => ?_, fun q1 => ?_⟩
  ·simp at q1
   refine idx_rd hp ?_ ?_ fun b2 o2 hb2 => ?_
   ·omega
   ·omega
   refine load_allN 0 (k) rfl hp ?_ ?_ hb2 rfl (mem_at 0 rfl) fun l3 hl3 => ?_
   ·omega
   ·omega
   obtain ⟨rfl, hw3⟩ := hl3; simp only [flStr, flInt, okI] at hw3
   refine ⟨fun q4 => ?_, fun q4 => ?_⟩
   ·simp at q4
    exact ⟨[], ⟨by rw [rowM_no (k := k) (by omega) (by omega)], rfl⟩, .mem (by simp)⟩
   ·simp at q4
    refine ⟨fun q5 => ?_, fun q5 => ?_⟩
    ·simp at q5
     exact ⟨[], ⟨by rw [rowM_no (k := k) (by omega) (by omega)], rfl⟩, .mem (by simp)⟩
    ·simp at q5
     apply loop_stepA (k + 1)
     ·exact .refl _
     ·exact frI
     ·exact trivial
     ·exact ⟨by omega, allK_step ha (inR_iff.2 (by omega))⟩
     omega
  ·simp at q1
   (have hke : k = r.length := (by omega); subst hke; exact ⟨[], ⟨by rw [rowM_yes (by omega) ha], rfl⟩, .mem (by simp)⟩)
theorem l03Row_ct (b : Option Addr) (m c : Nat) (r : List Int) :
  Ct prog 293 [.slice b m c] [] (fun H => (gSl 3 gI).rd H [.slice b m c] r) (fun v A => v = .bool (rowM r) ∧ A = []) := by
 refine Ct.intro0 G_ok func293 rfl rfl rfl fun E H hp => ?_
 obtain ⟨rfl, hc1, hl1⟩ := sl_len hp
 apply loop_mod (α := (Nat)) G_ok [4, 5, 6, 7, 10, 11, 12, 13, 14, 15, 2, 8, 9, 3] (fun z => [(3, .v (.int .i64 z))]) (fun z => []) (fun z => [H]) (fun z => r.length - z) (fun z => z ≤ r.length ∧ allK (fun i => inR 0 99 (r[i]?.getD 0)) z = true) (0)
 ·exact frI
 ·exact trivial
 ·exact ⟨by omega, rfl⟩
 ·exact .refl _
 rintro k hI
 try dsimp only at hI
 obtain ⟨hk, ha⟩ := hI
 try dsimp only
 refine ⟨fun q0 => ?_, fun q0 => ?_⟩
 ·simp at q0
  refine idx_rd hp ?_ ?_ fun b1 o1 hb1 => ?_
  ·omega
  ·omega
  refine load_allN 0 (k) rfl hp ?_ ?_ hb1 rfl (mem_at 0 rfl) fun l2 hl2 => ?_
  ·omega
  ·omega
  obtain ⟨rfl, hw2⟩ := hl2; simp only [flStr, flInt, okI] at hw2
  refine call_val (l01In_ct _ _ _) trivial ?_
  rintro _ rfl
  refine ⟨fun q4 => ?_, fun q4 => ?_⟩
  ·simp at q4
   have iq4 := mt inR_iff.2 (Bool.eq_false_iff.1 q4)
   exact ⟨[], ⟨by rw [rowM_no (k := k) (by omega) (by omega)], rfl⟩, .mem (by simp)⟩
  ·simp at q4
   have iq4 := inR_iff.1 q4
   apply loop_stepA (k + 1)
   ·exact .refl _
   ·exact frI
   ·exact trivial
   ·exact ⟨by omega, allK_step ha (inR_iff.2 (by omega))⟩
   omega
 ·simp at q0
  (have hke : k = r.length := (by omega); subst hke; exact ⟨[], ⟨by unfold rowM; rw [ha, Bool.and_true]; congr 1; rw [decide_eq_decide]; omega, rfl⟩, .mem (by simp)⟩)
theorem timesOk_ct (a : Int) : Ct prog 299 [.int .i64 a] [] (fun _ => True) (fun v A => v = .bool (inR 1 1000000 a) ∧ A = []) := by
 refine Ct.intro0 G_ok func299 rfl rfl rfl fun E H hp => ?_
 refine ⟨fun q0 => ?_, fun q0 => ?_⟩
 ·simp at q0
  exact ⟨[], ⟨by unfold inR; rw [decide_eq_true (by omega : (1 : Int) ≤ a), Bool.true_and], rfl⟩, .mem (by simp)⟩
 ·simp at q0
  exact ⟨[], ⟨by unfold inR; rw [decide_eq_false (by omega : ¬ (1 : Int) ≤ a), Bool.false_and], rfl⟩, .mem (by simp)⟩
theorem implBagOk_ct (l : List Value) (x : Bag) : Ct prog 226 [.agg ⟨l⟩] [] (fun H => gBag.rd H l x) (fun v A => v = .bool (bagM x) ∧ A = []) := by
 refine Ct.intro0 G_ok func226 rfl rfl rfl fun E H hp => ?_
 obtain ⟨b0p, c0p, rfl, h0p⟩ := gBag_rd.1 hp
 have hl := (rd_len h0p).2
 refine ⟨fun x0 => ?_⟩
 refine ⟨fun q1 => ?_, fun q1 => ?_⟩
 ·simp at q1
  exact ⟨[], ⟨by rw [bagM_long (by omega)], rfl⟩, .mem (by simp)⟩
 ·simp at q1
  apply loop_mod (α := (Nat)) G_ok [13, 14, 15, 16, 4, 3, 17, 18, 19, 20, 21, 22, 23, 24, 25, 26, 27, 28, 29, 30, 31, 32, 33, 34, 35, 36, 37, 38, 2, 39, 40, 41, 42, 43, 44, 45, 46, 47, 48, 49, 50, 51, 52, 53, 54, 12] (fun z => [(12, .v (.int .i64 z))]) (fun z => [{ id := x0, cs := [Value.slice b0p x.items.length c0p], ty := (33 : Nat) }]) (fun z => [H]) (fun z => x.items.length - z) (fun z => z ≤ x.items.length ∧ allK (itemM x) z = true) (0)
  ·exact frI
  ·exact ⟨rfl, trivial⟩
  ·exact ⟨by omega, rfl⟩
  ·exact .refl _
  rintro k hI
  obtain ⟨hk, ha⟩ : k ≤ x.items.length ∧ allK (itemM x) k = true := hI
  try dsimp only
  refine ⟨fun q2 => ?_, fun q2 => ?_⟩
  ·simp at q2
   refine idx_rd h0p ?_ ?_ fun b3 o3 hb3 => ?_
   ·omega
   ·omega
   refine load_allN default (k) rfl h0p ?_ ?_ hb3 rfl (mem_at 0 rfl) fun l4 hl4 => ?_
   ·omega
   ·omega
   obtain ⟨b0x4, c0x4, rfl, h0x4, w1x4⟩ := gItem_rd.1 hl4
   refine ⟨fun x5 => ?_⟩
   refine draw G_ok mixed none (.q 0 (.q 1 (.f 2 (.q 3 (.q 4 (.q 5 (.q 6 (.f 7 (.q 8 (.q 9 (.q 10 (.q 11 (.q 12 (.q 13 (.q 14 (.q 15 (.q 16 (.q 17 (.q 18 (.q 19 (.q 20 (.q 21 (.nil))))))))))))))))))))))) (by decide +kernel) ?_
   refine call_val (implRowOk_ct _ _ _ ((x.items[k]?.getD default).row)) (Rp.mono _ (mem_at 0 rfl) h0x4) ?_
   rintro _ rfl
   refine VC.intro ?_ ?_
   ·exact fun _ h => h
   refine ⟨fun q7 => ?_, fun q7 => ?_⟩
   ·simp at q7
    exact ⟨[], ⟨by rw [bagM_no (k := k) (by omega) (item_no1 (by assumption))], rfl⟩, .mem (by simp)⟩
   ·simp at q7
    refine call_val (timesOk_ct _) trivial ?_
    rintro _ rfl
    refine VC.intro ?_ ?_
    ·exact fun _ h => h
    refine ⟨fun q9 => ?_, fun q9 => ?_⟩
    ·simp at q9
     exact ⟨[], ⟨by rw [bagM_no (k := k) (by omega) (item_no2 (mt inR_iff.2 (by simp_all)))], rfl⟩, .mem (by simp)⟩
    ·simp at q9
     have iq9 := inR_iff.1 q9
     refine idx_rd h0p ?_ ?_ fun b10 o10 hb10 => ?_
     ·trivial
     ·omega
     refine load_partN default (0) 0 rfl h0p ?_ ?_ hb10 rfl (by decide) (mem_at 0 rfl) fun l11 hl11 => ?_
     ·trivial
     ·omega
     obtain ⟨b0x11, c0x11, rfl, h0x11, w1x11⟩ := gItem_rd.1 hl11
     refine ⟨fun q12 => ?_, fun q12 => ?_⟩
     ·simp at q12
      exact ⟨[], ⟨by rw [bagM_no (k := k) (by omega) (item_no3 (by unfold rowAt; omega))], rfl⟩, .mem (by simp)⟩
     ·simp at q12
      refine draw G_ok mixed none (.q 0 (.q 1 (.q 2 (.q 3 (.q 4 (.q 5 (.q 6 (.q 7 (.q 8 (.q 9 (.q 10 (.q 11 (.f 12 (.q 13 (.q 14 (.nil)))))))))))))))) (by decide +kernel) ?_
      refine ⟨fun q13 => ?_, fun q13 => ?_⟩
      ·simp at q13
       refine idx_rd h0p ?_ ?_ fun b14 o14 hb14 => ?_
       ·(simp (disch := omega) only [wrap_of]; omega)
       ·(simp (disch := omega) only [wrap_of]; omega)
       refine load_part default 0 h0p ?_ ?_ hb14 rfl (by decide) (mem_at 0 rfl) fun l15 hl15 => ?_
       ·(simp (disch := omega) only [wrap_of]; omega)
       ·(simp (disch := omega) only [wrap_of]; omega)
       rw [show (IntKind.i64.wrap ((k : Int) - 1)).toNat = k - 1 by (simp (disch := omega) only [wrap_of]; omega)] at hl15
       obtain ⟨b0x15, c0x15, rfl, h0x15, w1x15⟩ := gItem_rd.1 hl15
       refine call_val (implRowLess_ct _ _ _ _ _ _ ((x.items[k - (1 : Nat)]?.getD default).row) ((x.items[k]?.getD default).row)) ⟨(Rp.mono _ (mem_at 0 rfl) h0x15), (Rp.mono _ (mem_at 0 rfl) h0x4)⟩ ?_
       rintro _ rfl
       refine VC.intro ?_ ?_
       ·exact fun _ h => h
       refine ⟨fun q17 => ?_, fun q17 => ?_⟩
       ·simp at q17
        exact ⟨[], ⟨by rw [bagM_no (k := k) (by omega) (item_no4 (by omega) (by assumption))], rfl⟩, .mem (by simp)⟩
       ·simp at q17
        apply loop_stepA (k + 1)
        ·exact .refl _
        ·exact frI
        ·exact ⟨rfl, trivial⟩
        ·exact ⟨by omega, allK_step ha (item_yes (by assumption) (by omega) (by first | assumption | (unfold rowAt; omega)) (by first | exact .inl (by omega) | exact .inr (by assumption)))⟩
        omega
      ·simp at q13
       apply loop_stepA (k + 1)
       ·exact .refl _
       ·exact frI
       ·exact ⟨rfl, trivial⟩
       ·exact ⟨by omega, allK_step ha (item_yes (by assumption) (by omega) (by first | assumption | (unfold rowAt; omega)) (by first | exact .inl (by omega) | exact .inr (by assumption)))⟩
       omega
  ·simp at q2
   (have hke : k = x.items.length := (by omega); subst hke; exact ⟨[], ⟨by rw [bagM_yes (by omega) ha], rfl⟩, .mem (by simp)⟩)
theorem specBagOk_ct (l : List Value) (x : Bag) : Ct prog 215 [.agg ⟨l⟩] [] (fun H => gBag.rd H l x) (fun v A => v = .bool (bagM x) ∧ A = []) := by
 refine Ct.intro0 G_ok func215 rfl rfl rfl fun E H hp => ?_
 obtain ⟨b0p, c0p, rfl, h0p⟩ := gBag_rd.1 hp
 have hl := (rd_len h0p).2
 refine ⟨fun x0 => ?_⟩
 apply loop_mod (α := (Nat)) G_ok [5, 6, 7, 8, 9, 12, 13, 14, 15, 16, 4, 17, 18, 19, 20, 21, 22, 23, 24, 25, 26, 27, 28, 29, 30, 31, 32, 33, 34, 35, 36, 37, 38, 39, 40, 41, 42, 43, 44, 45, 46, 47, 48, 49, 50, 51, 52, 53, 54, 55, 56, 57, 2, 10, 11, 3] (fun z => [(3, .v (.int .i64 z))]) (fun z => [{ id := x0, cs := [Value.slice b0p x.items.length c0p], ty := (33 : Nat) }]) (fun z => [H]) (fun z => x.items.length - z) (fun z => z ≤ x.items.length ∧ allK (itemM x) z = true) (0)
 ·exact frI
 ·exact ⟨rfl, trivial⟩
 ·exact ⟨by omega, rfl⟩
 ·exact .refl _
 rintro k hI
 obtain ⟨hk, ha⟩ : k ≤ x.items.length ∧ allK (itemM x) k = true := hI
 try dsimp only
 refine ⟨fun q1 => ?_, fun q1 => ?_⟩
 ·simp at q1
  refine idx_rd h0p ?_ ?_ fun b2 o2 hb2 => ?_
  ·omega
  ·omega
  refine load_allN default (k) rfl h0p ?_ ?_ hb2 rfl (mem_at 0 rfl) fun l3 hl3 => ?_
  ·omega
  ·omega
  obtain ⟨b0x3, c0x3, rfl, h0x3, w1x3⟩ := gItem_rd.1 hl3
  refine ⟨fun x4 => ?_⟩
  refine draw G_ok mixed none (.q 0 (.q 1 (.f 2 (.q 3 (.q 4 (.q 5 (.q 6 (.f 7 (.q 8 (.q 9 (.q 10 (.q 11 (.q 12 (.q 13 (.q 14 (.q 15 (.q 16 (.q 17 (.q 18 (.q 19 (.q 20 (.q 21 (.q 22 (.f 23 (.q 24 (.q 25 (.q 26 (.q 27 (.q 28 (.q 29 (.q 30 (.q 31 (.q 32 (.q 33 (.q 34 (.q 35 (.q 36 (.q 37 (.q 38 (.q 39 (.q 40 (.nil)))))))))))))))))))))))))))))))))))))))))) (by decide +kernel) ?_
  refine call_val (l03Row_ct _ _ _ ((x.items[k]?.getD default).row)) (Rp.mono _ (mem_at 0 rfl) h0x3) ?_
  rintro _ rfl
  refine VC.intro ?_ ?_
  ·exact fun _ h => h
  refine ⟨fun q6 => ?_, fun q6 => ?_⟩
  ·simp at q6
   exact ⟨[], ⟨by rw [bagM_no (k := k) (by omega) (item_no1 (by assumption))], rfl⟩, .mem (by simp)⟩
  ·simp at q6
   refine call_val (l01In_ct _ _ _) trivial ?_
   rintro _ rfl
   refine VC.intro ?_ ?_
   ·exact fun _ h => h
   refine ⟨fun q8 => ?_, fun q8 => ?_⟩
   ·simp at q8
    exact ⟨[], ⟨by rw [bagM_no (k := k) (by omega) (item_no2 (mt inR_iff.2 (by simp_all)))], rfl⟩, .mem (by simp)⟩
   ·simp at q8
    have iq8 := inR_iff.1 q8
    refine ⟨fun q9 => ?_, fun q9 => ?_⟩
    ·simp at q9
     refine idx_rd h0p ?_ ?_ fun b10 o10 hb10 => ?_
     ·(simp (disch := omega) only [wrap_of]; omega)
     ·(simp (disch := omega) only [wrap_of]; omega)
     refine load_part default 0 h0p ?_ ?_ hb10 rfl (by decide) (mem_at 0 rfl) fun l11 hl11 => ?_
     ·(simp (disch := omega) only [wrap_of]; omega)
     ·(simp (disch := omega) only [wrap_of]; omega)
     rw [show (IntKind.i64.wrap ((k : Int) - 1)).toNat = k - 1 by (simp (disch := omega) only [wrap_of]; omega)] at hl11
     obtain ⟨b0x11, c0x11, rfl, h0x11, w1x11⟩ := gItem_rd.1 hl11
     refine call_val (specRowLess_ct _ _ _ _ _ _ ((x.items[k - (1 : Nat)]?.getD default).row) ((x.items[k]?.getD default).row)) ⟨(Rp.mono _ (mem_at 0 rfl) h0x11), (Rp.mono _ (mem_at 0 rfl) h0x3)⟩ ?_
     rintro _ rfl
     refine VC.intro ?_ ?_
     ·exact fun _ h => h
     refine ⟨fun q13 => ?_, fun q13 => ?_⟩
     ·simp at q13
      exact ⟨[], ⟨by rw [bagM_no (k := k) (by omega) (item_no4 (by omega) (by assumption))], rfl⟩, .mem (by simp)⟩
     ·simp at q13
      refine idx_rd h0p ?_ ?_ fun b14 o14 hb14 => ?_
      ·(simp (disch := omega) only [wrap_of]; omega)
      ·(simp (disch := omega) only [wrap_of]; omega)
      refine load_part default 0 h0p ?_ ?_ hb14 rfl (by decide) (mem_at 0 rfl) fun l15 hl15 => ?_
      ·(simp (disch := omega) only [wrap_of]; omega)
      ·(simp (disch := omega) only [wrap_of]; omega)
      rw [show (IntKind.i64.wrap ((k : Int) - 1)).toNat = k - 1 by (simp (disch := omega) only [wrap_of]; omega)] at hl15
      obtain ⟨b0x15, c0x15, rfl, h0x15, w1x15⟩ := gItem_rd.1 hl15
      refine ⟨fun q16 => ?_, fun q16 => ?_⟩
      ·simp at q16
       (have e0 := itemM_len (allK_at ha (k - 1) (by omega)); unfold rowAt at e0; exact ⟨[], ⟨by rw [bagM_no (k := k) (by omega) (item_no3 (by unfold rowAt; omega))], rfl⟩, .mem (by simp)⟩)
      ·simp at q16
       apply loop_stepA (k + 1)
       ·exact .refl _
       ·exact frI
       ·exact ⟨rfl, trivial⟩
       ·exact ⟨by omega, allK_step ha (item_yes (by assumption) (by omega) (by first | (have e0 := itemM_len (allK_at ha (k - 1) (by omega)); unfold rowAt at e0 ⊢; omega) | (subst ‹k = 0›; rfl)) (by first | exact .inl (by omega) | exact .inr (by assumption)))⟩
       omega
    ·simp at q9
     apply loop_stepA (k + 1)
     ·exact .refl _
     ·exact frI
     ·exact ⟨rfl, trivial⟩
     ·exact ⟨by omega, allK_step ha (item_yes (by assumption) (by omega) (by first | (have e0 := itemM_len (allK_at ha (k - 1) (by omega)); unfold rowAt at e0 ⊢; omega) | (subst ‹k = 0›; rfl)) (by first | exact .inl (by omega) | exact .inr (by assumption)))⟩
     omega
 ·simp at q1
  (have hke : k = x.items.length := (by omega); subst hke; exact ⟨[], ⟨by unfold bagM; rw [ha, Bool.and_true]; congr 1; rw [decide_eq_decide]; omega, rfl⟩, .mem (by simp)⟩)
end
end Go.Proofs.YtjgehblllhkdbaaGreat
