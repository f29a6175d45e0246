/-
  How the values of a type lie: read, and owned with all that they refer to; lists, pairs and structures of such. Slices whose elements own memory: appending, storing whole elements, new ones. Contracts of functions that write: what they ask of the rest of the memory stands apart from what they own. Fields: a part of a value that may be read, written, or handed on alone. Bytes and texts. What the texts over the laws' types share. Texts appended to bytes; builders of texts. Builders of texts. The types of the laws: how their values lie, and the laws' helpers over them (printed by gent.py). Conditions: none.
-/
import Derived.Test.YtcnclhjhnjpeiaaGreatDoorZs1

namespace Go.SX
/-- How a type's values lie. cnt, mark: the marks laid into a value that lies in memory; cntV, markV: those laid into a value in hand. -/
structure Gt (α : Type) extends Rp α where
  ow : List Value → α → Hp → Prop
  owrd : ∀ {l : List Value} {x : α} {A : Hp}, ow l x A → rd A l x
  owp : ∀ {l : List Value} {x : α} {A A' : Hp}, ow l x A → A'.Perm A → ow l x A'
  one : ∀ {H : Hp} {l : List Value} {x : α}, rd H l x → allOne l = true
  pos : 0 < size
  cnt : α → Nat
  mark : Int → α → α
  cntV : α → Nat
  markV : Int → α → α
  sz : α → Nat
  w : Nat
  cnt_le : ∀ x, cnt x ≤ w * (1 + sz x)
  cntV_le : ∀ x, cntV x ≤ w * (1 + sz x)
def Fl.gt {α : Type} (f : Fl α) (mk : Int → α) (sz : α → Nat := fun _ => 0) : Gt α where
  toRp := f.rp
  ow l x A := l = f.enc x ∧ f.wf x ∧ A = []
  owrd h := ⟨h.1, h.2.1⟩
  owp h hp := ⟨h.1, h.2.1, by rw [h.2.2] at hp; exact hp.eq_nil⟩
  one h := by rw [h.1]; exact f.one _
  pos := f.pos
  cnt _ := 1
  mark k _ := mk k
  cntV _ := 0
  markV _ x := x
  sz := sz
  w := 1
  cnt_le x := by omega
  cntV_le x := by omega
abbrev RawC (s : Nat) : Type := { l : List Value // l.length = s ∧ allOne l = true }
def flRaw (s : Nat) (hs : 0 < s) : Fl (RawC s) := ⟨s, fun l => l.1, fun _ => True, fun l => l.2.1, fun l => l.2.2, hs⟩
section
variable {α : Type}
inductive OwL (g : Gt α) : List (RawC g.size) → List α → List Hp → Prop where
  | nil : OwL g [] [] []
  | cons {l : RawC g.size} {x : α} {A : Hp} {ls : List (RawC g.size)} {xs : List α} {As : List Hp} : g.ow l.1 x A → OwL g ls xs As → OwL g (l :: ls) (x :: xs) (A :: As)
theorem OwL.len {g : Gt α} {ls : List (RawC g.size)} {xs : List α} {As : List Hp} (h : OwL g ls xs As) : ls.length = xs.length ∧ As.length = xs.length := by
  induction h with
  | nil => exact ⟨rfl, rfl⟩
  | cons _ _ ih => simp [ih]
theorem OwL.get {g : Gt α} {ls : List (RawC g.size)} {xs : List α} {As : List Hp} (h : OwL g ls xs As) : ∀ (i : Nat) (h1 : i < xs.length) (h2 : i < ls.length) (h3 : i < As.length), g.ow (ls[i]).1 xs[i] As[i] := by
  induction h with
  | nil => intro i h1; simp at h1
  | cons h hr ih =>
    intro i h1 h2 h3
    cases i with
    | zero => exact h
    | succ i => exact ih i (by simpa using h1) (by simpa using h2) (by simpa using h3)
theorem OwL.append {g : Gt α} {ls ls' : List (RawC g.size)} {xs xs' : List α} {As As' : List Hp} (h : OwL g ls xs As) (h' : OwL g ls' xs' As') : OwL g (ls ++ ls') (xs ++ xs') (As ++ As') := by
  induction h with
  | nil => exact h'
  | cons h hr ih => exact .cons h ih
theorem OwL.set {g : Gt α} {ls : List (RawC g.size)} {xs : List α} {As : List Hp} (h : OwL g ls xs As) {l : RawC g.size} {y : α} {B : Hp} (hy : g.ow l.1 y B) : ∀ (i : Nat), OwL g (ls.set i l) (xs.set i y) (As.set i B) := by
  induction h with
  | nil => intro i; exact .nil
  | cons h hr ih =>
    intro i
    cases i with
    | zero => exact .cons hy hr
    | succ i => exact .cons h (ih i)
theorem OwL.take {g : Gt α} {ls : List (RawC g.size)} {xs : List α} {As : List Hp} (h : OwL g ls xs As) : ∀ (i : Nat), OwL g (ls.take i) (xs.take i) (As.take i) := by
  induction h with
  | nil => intro i; simp; exact .nil
  | cons h hr ih =>
    intro i
    cases i with
    | zero => exact .nil
    | succ i => exact .cons h (ih i)
theorem OwL.rep {g : Gt α} {l : RawC g.size} {z : α} (hz : g.ow l.1 z []) : ∀ n, OwL g (List.replicate n l) (List.replicate n z) (List.replicate n [])
  | 0 => .nil
  | n + 1 => .cons hz (OwL.rep hz n)
def mkL (g : Gt α) : Int → List α → List α
  | _, [] => []
  | k, x :: r => g.mark k x :: mkL g (k + g.cnt x) r
def cntL (g : Gt α) : List α → Nat
  | [] => 0
  | x :: r => g.cnt x + cntL g r
theorem mkL_len (g : Gt α) : ∀ (xs : List α) (k : Int), (mkL g k xs).length = xs.length
  | [], _ => rfl
  | x :: r, k => by simp [mkL, mkL_len g r]
theorem cntL_append (g : Gt α) : ∀ (xs ys : List α), cntL g (xs ++ ys) = cntL g xs + cntL g ys
  | [], ys => by simp [cntL]
  | x :: r, ys => by simp [cntL, cntL_append g r]; omega
theorem mkL_append (g : Gt α) : ∀ (xs ys : List α) (k : Int), mkL g k (xs ++ ys) = mkL g k xs ++ mkL g (k + cntL g xs) ys
  | [], ys, k => by simp [mkL, cntL]
  | x :: r, ys, k => by simp [mkL, mkL_append g r, cntL, Int.add_assoc]
def szL (g : Gt α) : List α → Nat
  | [] => 0
  | x :: r => 1 + g.sz x + szL g r
theorem len_szL (g : Gt α) : ∀ (xs : List α), xs.length ≤ szL g xs
  | [] => Nat.le_refl _
  | x :: r => by have := len_szL g r; simp only [szL, List.length_cons]; omega
theorem cntL_le (g : Gt α) : ∀ (xs : List α), cntL g xs ≤ g.w * szL g xs
  | [] => by simp [cntL]
  | x :: r => by
    have h1 := g.cnt_le x
    have h2 := cntL_le g r
    simp only [cntL, szL]
    rw [Nat.mul_add g.w (1 + g.sz x) (szL g r)]
    omega
theorem flat_lists (As : List Hp) (i : Nat) (hi : i < As.length) : As.flatten.Perm (As[i] ++ (As.set i []).flatten) := by
  induction As generalizing i with
  | nil => simp at hi
  | cons A r ih =>
    cases i with
    | zero => simp
    | succ i =>
      have h := ih i (by simpa using hi)
      simp only [List.flatten_cons, List.getElem_cons_succ, List.set_cons_succ]
      refine (h.append_left A).trans ?_
      rw [← List.append_assoc, ← List.append_assoc]
      exact List.perm_append_comm.append_right _
/-- a slice: its row, and what its elements own -/
def gSl (T : TypeId) (g : Gt α) : Gt (List α) where
  toRp := rpSl g.toRp
  ow l xs A := ∃ v ls A0 As, l = [v] ∧ Ow (flRaw g.size g.pos) T v ls A0 ∧ A.Perm (A0 ++ As.flatten) ∧ OwL g ls xs As
  owrd := by
    rintro l xs A ⟨v, ls, A0, As, rfl, ho, hp, hl⟩
    obtain ⟨base, cap, e, h1, h2⟩ := ho.rd
    obtain ⟨e1, e2⟩ := hl.len
    refine ⟨base, cap, by rw [← e1]; exact e, by rw [← e1]; exact h1, fun i hi => ?_⟩
    obtain ⟨b, o, l', h3, h4, h5⟩ := h2 i (by rw [e1]; exact hi)
    have hsub : ∀ p ∈ A0, p ∈ A := fun p hp' => hp.mem_iff.2 (List.mem_append_left _ hp')
    refine ⟨b, o, l', h3, h4.mono hsub, ?_⟩
    have h6 : l' = (ls[i]'(by rw [e1]; exact hi)).1 := h5.1
    rw [h6]
    refine g.mono (fun p hp' => hp.mem_iff.2 (List.mem_append_right _ ?_)) (g.owrd (hl.get i hi (by rw [e1]; exact hi) (by rw [e2]; exact hi)))
    exact List.mem_flatten.2 ⟨_, List.getElem_mem _, hp'⟩
  owp := by
    rintro l xs A A' ⟨v, ls, A0, As, rfl, ho, hp, hl⟩ h'
    exact ⟨v, ls, A0, As, rfl, ho, h'.trans hp, hl⟩
  one := by
    rintro H l xs ⟨_, _, rfl, _⟩; rfl
  pos := by show 0 < 1; omega
  cnt := cntL g
  mark := mkL g
  cntV := cntL g
  markV := mkL g
  sz := szL g
  w := g.w
  cnt_le xs := Nat.le_trans (cntL_le g xs) (Nat.mul_le_mul_left _ (by omega))
  cntV_le xs := Nat.le_trans (cntL_le g xs) (Nat.mul_le_mul_left _ (by omega))
theorem sl_rd {T : TypeId} {g : Gt α} {H : Hp} {l : List Value} {xs : List α} (h : (gSl T g).rd H l xs) : ∃ b c, l = [.slice b xs.length c] ∧ (gSl T g).rd H [.slice b xs.length c] xs := by
  obtain ⟨b, c, rfl, h1, h2⟩ := h
  exact ⟨b, c, rfl, b, c, rfl, h1, h2⟩
theorem sl_ow {T : TypeId} {g : Gt α} {A : Hp} {l : List Value} {xs : List α} (h : (gSl T g).ow l xs A) : ∃ b c, l = [.slice b xs.length c] ∧ (gSl T g).ow [.slice b xs.length c] xs A := by
  obtain ⟨b, c, rfl, h1, h2⟩ := (gSl T g).owrd h
  exact ⟨b, c, rfl, h⟩
theorem sl_len {T : TypeId} {g : Gt α} {H : Hp} {b : Option Addr} {m c : Nat} {xs : List α} (h : (gSl T g).rd H [.slice b m c] xs) : m = xs.length ∧ xs.length ≤ c ∧ xs.length ≤ 9223372036854775807 := by
  obtain ⟨b, c, e, h1, h2⟩ := h; cases e; exact ⟨rfl, h1⟩
theorem sl_nil (T : TypeId) (g : Gt α) (b : Option Addr) : (gSl T g).ow [.slice b 0 0] [] [] := ⟨_, [], [], [], rfl, Ow.nil _ _, by simp, .nil⟩
/-- a slice of plain elements -/
theorem fl_ow {f : Fl α} {mk : Int → α} {sz : α → Nat} {T : TypeId} {v : Value} {xs : List α} {A : Hp} (h : (gSl T (f.gt mk sz)).ow [v] xs A) : Ow f T v xs A := by
  obtain ⟨v', ls, A0, As, e, ho, hp, hl⟩ := h
  cases e
  have hA : ∀ {ls : List (RawC (f.gt mk sz).size)} {xs : List α} {As : List Hp}, OwL (f.gt mk sz) ls xs As → As.flatten = [] ∧ (∀ x ∈ xs, f.wf x) ∧ ls.flatMap (flRaw (f.gt mk sz).size (f.gt mk sz).pos).enc = xs.flatMap f.enc := by
    intro ls xs As h
    induction h with
    | nil => exact ⟨rfl, (fun _ h => by cases h), rfl⟩
    | cons h hr ih =>
      obtain ⟨h1, h2, h3⟩ := h
      refine ⟨by rw [List.flatten_cons, h3, ih.1]; rfl, ?_, ?_⟩
      · intro y hy
        rcases List.mem_cons.1 hy with rfl | hy
        · exact h2
        exact ih.2.1 y hy
      rw [List.flatMap_cons, List.flatMap_cons, ih.2.2]; congr 1
  obtain ⟨h1, h2, h3⟩ := hA hl
  rw [h1, List.append_nil] at hp
  obtain ⟨e1, _⟩ := hl.len
  obtain ⟨_, g1, base, cap, e, g2⟩ := ho
  rw [e1] at g1 e
  refine ⟨h2, g1, base, cap, e, ?_⟩
  rcases g2 with ⟨rfl, rfl, rfl⟩ | ⟨b, sp, g3, rfl, g4, g5⟩
  · have : xs = [] := by cases hl; rfl
    exact .inl ⟨rfl, this, hp.eq_nil⟩
  refine .inr ⟨b, sp, g3, ?_, by rw [← e1]; exact g4, by rw [← e1]; exact g5⟩
  rw [← h3]
  exact List.perm_singleton.1 hp
theorem ow_fl {f : Fl α} {mk : Int → α} {sz : α → Nat} {T : TypeId} {v : Value} {xs : List α} {A : Hp} (h : Ow f T v xs A) : (gSl T (f.gt mk sz)).ow [v] xs A := by
  obtain ⟨h1, h2, base, cap, rfl, h3⟩ := h
  have key : ∀ (xs : List α), (∀ x ∈ xs, f.wf x) → ∃ ls As, OwL (f.gt mk sz) ls xs As ∧ As.flatten = [] ∧ ls.flatMap (flRaw (f.gt mk sz).size (f.gt mk sz).pos).enc = xs.flatMap f.enc := by
    intro xs
    induction xs with
    | nil => intro _; exact ⟨[], [], .nil, rfl, rfl⟩
    | cons x r ih =>
      intro hw
      obtain ⟨ls, As, g1, g2, g3⟩ := ih (fun y hy => hw y (List.mem_cons_of_mem _ hy))
      refine ⟨⟨f.enc x, f.len x, f.one x⟩ :: ls, [] :: As, .cons ⟨rfl, hw x (List.mem_cons_self ..), rfl⟩ g1, by rw [List.flatten_cons, g2]; rfl, ?_⟩
      exact congrArg (fun q => f.enc x ++ q) g3
  obtain ⟨ls, As, g1, g2, g3⟩ := key xs h1
  obtain ⟨e1, _⟩ := g1.len
  refine ⟨_, ls, A, As, rfl, ⟨fun _ _ => trivial, by rw [e1]; exact h2, base, cap, by rw [e1], ?_⟩, by rw [g2, List.append_nil], g1⟩
  rcases h3 with ⟨rfl, rfl, rfl⟩ | ⟨b, sp, h4, rfl, h5, h6⟩
  · have : ls = [] := by cases g1; rfl
    exact .inl ⟨rfl, this, rfl⟩
  exact .inr ⟨b, sp, h4, by rw [g3], by rw [e1]; exact h5, by rw [e1]; exact h6⟩
end
/-- two things one behind the other -/
def gPair {α β : Type} (g : Gt α) (h : Gt β) : Gt (α × β) where
  size := g.size + h.size
  rd H l x := ∃ l1 l2, l = l1 ++ l2 ∧ g.rd H l1 x.1 ∧ h.rd H l2 x.2
  mono hh := by rintro ⟨l1, l2, e, h1, h2⟩; exact ⟨l1, l2, e, g.mono hh h1, h.mono hh h2⟩
  len := by rintro H l x ⟨l1, l2, rfl, h1, h2⟩; rw [List.length_append, g.len h1, h.len h2]
  ow l x A := ∃ l1 l2 A1 A2, l = l1 ++ l2 ∧ A.Perm (A1 ++ A2) ∧ g.ow l1 x.1 A1 ∧ h.ow l2 x.2 A2
  owrd := by
    rintro l x A ⟨l1, l2, A1, A2, rfl, hp, h1, h2⟩
    exact ⟨l1, l2, rfl, g.mono (fun p hp' => hp.mem_iff.2 (List.mem_append_left _ hp')) (g.owrd h1), h.mono (fun p hp' => hp.mem_iff.2 (List.mem_append_right _ hp')) (h.owrd h2)⟩
  owp := by
    rintro l x A A' ⟨l1, l2, A1, A2, rfl, hp, h1, h2⟩ h'
    exact ⟨l1, l2, A1, A2, rfl, h'.trans hp, h1, h2⟩
  one := by rintro H l x ⟨l1, l2, rfl, h1, h2⟩; exact allOne_append _ _ (g.one h1) (h.one h2)
  pos := by have := g.pos; omega
  cnt x := g.cnt x.1 + h.cnt x.2
  mark k x := (g.mark k x.1, h.mark (k + g.cnt x.1) x.2)
  cntV x := g.cntV x.1 + h.cntV x.2
  markV k x := (g.markV k x.1, h.markV (k + g.cntV x.1) x.2)
  sz x := g.sz x.1 + h.sz x.2
  w := g.w + h.w
  cnt_le x := Nat.le_trans (Nat.add_le_add (g.cnt_le x.1) (h.cnt_le x.2)) (by
    rw [Nat.add_mul]; exact Nat.add_le_add (Nat.mul_le_mul_left _ (by omega)) (Nat.mul_le_mul_left _ (by omega)))
  cntV_le x := Nat.le_trans (Nat.add_le_add (g.cntV_le x.1) (h.cntV_le x.2)) (by
    rw [Nat.add_mul]; exact Nat.add_le_add (Nat.mul_le_mul_left _ (by omega)) (Nat.mul_le_mul_left _ (by omega)))
/-- the same under another name -/
def gIso {α β : Type} (g : Gt α) (f : β → α) (f' : α → β) : Gt β where
  size := g.size
  rd H l x := g.rd H l (f x)
  mono hh h := g.mono hh h
  len h := g.len h
  ow l x A := g.ow l (f x) A
  owrd h := g.owrd h
  owp h hp := g.owp h hp
  one h := g.one h
  pos := g.pos
  cnt x := g.cnt (f x)
  mark k x := f' (g.mark k (f x))
  cntV x := g.cntV (f x)
  markV k x := f' (g.markV k (f x))
  sz x := g.sz (f x)
  w := g.w
  cnt_le x := g.cnt_le (f x)
  cntV_le x := g.cntV_le (f x)
section
variable {α : Type} {g : Gt α} {T : TypeId}
theorem set_split {β : Type} (ls : List β) (i : Nat) (q : β) (h : i < ls.length) : ls.set i q = ls.take i ++ q :: ls.drop (i + 1) := by
  rw [List.set_eq_take_append_cons_drop, if_pos h]
theorem raw_of {H : Hp} {l : List Value} {x : α} (h : g.rd H l x) : l.length = g.size ∧ allOne l = true := ⟨g.len h, g.one h⟩
/-- what an element of an owned slice owns may be taken out, and put back changed -/
theorem gopen {base : Option Addr} {m cap : Nat} {xs : List α} {A : Hp} (h : (gSl T g).ow [.slice base m cap] xs A) (i : Nat) (hi : i < xs.length) :
    ∃ lx Ax rest b o, base = some ⟨b, o, none⟩ ∧ A.Perm (Ax ++ rest) ∧ g.ow lx xs[i] Ax ∧ RdCells rest b (o + i * g.size) g.size lx ∧ ∀ y Ay A', g.ow lx y Ay → A'.Perm (Ay ++ rest) → (gSl T g).ow [.slice base m cap] (xs.set i y) A' := by
  obtain ⟨v, ls, A0, As, e, ho, hp, hl⟩ := h
  cases e
  obtain ⟨e1, e2⟩ := hl.len
  have h0 := hl.get i hi (by omega) (by omega)
  obtain ⟨base', cap', ee, _, hrd⟩ := ho.rd
  cases ee
  obtain ⟨b, o, l', k1, k2, k3, _⟩ := hrd i (by omega)
  have k3 : l' = (ls[i]'(by omega)).1 := k3
  refine ⟨(ls[i]'(by omega)).1, As[i]'(by omega), A0 ++ (As.set i []).flatten, b, o, k1, ?_, h0, ?_, ?_⟩
  · refine hp.trans (((flat_lists As i (by omega)).append_left A0).trans ?_)
    rw [← List.append_assoc, ← List.append_assoc]
    exact List.perm_append_comm.append_right _
  · rw [← k3]; exact k2.mono fun p hp' => List.mem_append_left _ hp'
  intro y Ay A' hy hA'
  refine ⟨_, ls, A0, As.set i Ay, rfl, ho, ?_, ?_⟩
  · refine hA'.trans ?_
    have h1 := flat_lists (As.set i Ay) i (by simpa using (by omega : i < As.length))
    simp only [List.getElem_set_self, List.set_set] at h1
    have h2 := h1.append_left A0
    refine List.Perm.trans ?_ h2.symm
    rw [← List.append_assoc, ← List.append_assoc]
    exact List.perm_append_comm.append_right _
  have := hl.set (l := ls[i]'(by omega)) (y := y) (B := Ay) hy i
  rw [List.set_getElem_self] at this
  exact this
/-- a store into an element of an owned slice: from its cell d on; B: what the element then owns, out of the heaplets R0 -/
theorem gstore {R : List Hp} {A : Hp} {base : Option Addr} {m cap : Nat} {xs : List α} {i : Int} {b o off : Nat} {l : List Value} {F : List Hp → Prop} (n : Nat) (hn : nthR R n = some A) (h : (gSl T g).ow [.slice base m cap] xs A)
    (h0 : 0 ≤ i) (h1 : i < xs.length) (hb : base = some ⟨b, o, none⟩) (d : Nat) (hoff : off = o + i.toNat * g.size + d) (y : α)
    (hy : ∀ lx Ax, g.ow lx (xs[i.toNat]'(by omega)) Ax → d + l.length ≤ g.size ∧ ∃ Ay, g.ow (setAt lx d l) y Ay ∧ Ax.Perm Ay)
    (k : ∀ A', A'.length = A.length → (gSl T g).ow [.slice base m cap] (xs.set i.toNat y) A' → F (setR R n A')) : VCstore R b off l F := by
  obtain ⟨v, ls, A0, As, e, ho, hp, hl⟩ := h
  cases e
  obtain ⟨e1, e2⟩ := hl.len
  have hi : i.toNat < xs.length := by omega
  have g0 := hl.get i.toNat hi (by omega) (by omega)
  obtain ⟨hd, Ay, hoy, hperm⟩ := hy _ _ g0
  subst hoff
  obtain ⟨hw, hlen, base', cap', e, h2⟩ := ho
  cases e
  rcases h2 with ⟨rfl, rfl, rfl⟩ | ⟨b', sp, h3, rfl, h4, h5⟩
  · simp at e1; omega
  rw [hb] at h3; cases h3
  have hmem : (b, Obj.cells ⟨ls.flatMap (flRaw g.size g.pos).enc ++ sp⟩ T) ∈ A := hp.mem_iff.2 (List.mem_append_left _ (List.mem_singleton.2 rfl))
  obtain ⟨s, t, hst⟩ := List.append_of_mem hmem
  obtain ⟨pre, post, h6, h7⟩ := nthR_split hn
  have hoyr := raw_of (g.owrd hoy)
  have hsl : setAt (ls.flatMap (flRaw g.size g.pos).enc ++ sp) (i.toNat * g.size + d) l = (ls.set i.toNat ⟨setAt (ls[i.toNat]'(by omega)).1 d l, hoyr⟩).flatMap (flRaw g.size g.pos).enc ++ sp := by
    have e3 : ls.flatMap (flRaw g.size g.pos).enc = (ls.take i.toNat).flatMap (flRaw g.size g.pos).enc ++ ((ls[i.toNat]'(by omega)).1 ++ (ls.drop (i.toNat + 1)).flatMap (flRaw g.size g.pos).enc) := by
      conv => lhs; rw [← List.take_append_drop i.toNat ls, List.drop_eq_getElem_cons (by omega : i.toNat < ls.length)]
      rw [List.flatMap_append, List.flatMap_cons]; rfl
    have e4 : ((ls.take i.toNat).flatMap (flRaw g.size g.pos).enc).length = i.toNat * g.size := by
      rw [flat_length, List.length_take, Nat.min_eq_left (by omega)]; rfl
    have e5 : (ls[i.toNat]'(by omega)).1.length = g.size := (ls[i.toNat]'(by omega)).2.1
    have e6 : (ls.set i.toNat ⟨setAt (ls[i.toNat]'(by omega)).1 d l, hoyr⟩).flatMap (flRaw g.size g.pos).enc = (ls.take i.toNat).flatMap (flRaw g.size g.pos).enc ++ (setAt (ls[i.toNat]'(by omega)).1 d l ++ (ls.drop (i.toNat + 1)).flatMap (flRaw g.size g.pos).enc) := by
      rw [set_split _ _ _ (by omega), List.flatMap_append, List.flatMap_cons]; rfl
    rw [e6, e3]
    have gen : ∀ (P0 C Q : List Value), P0.length = i.toNat * g.size → d + l.length ≤ C.length → setAt (P0 ++ (C ++ Q) ++ sp) (i.toNat * g.size + d) l = P0 ++ (setAt C d l ++ Q) ++ sp := by
      intro P0 C Q hP hC
      rw [setAt_eq _ _ _ (by simp only [List.length_append]; omega), setAt_eq _ _ _ hC]
      simp only [List.append_assoc]
      rw [List.take_append, List.drop_append, List.take_of_length_le (by omega), List.drop_eq_nil_of_le (by omega : P0.length ≤ i.toNat * g.size + d + l.length)]
      rw [show i.toNat * g.size + d - P0.length = d by omega, show i.toNat * g.size + d + l.length - P0.length = d + l.length by omega]
      rw [List.take_append_of_le_length (by omega), List.drop_append_of_le_length (by omega)]
      simp only [List.append_assoc, List.nil_append]
    exact gen _ _ _ e4 (by rw [e5]; exact hd)
  refine .intro (setR R n (s ++ (b, Obj.cells ⟨(ls.set i.toNat ⟨setAt (ls[i.toNat]'(by omega)).1 d l, hoyr⟩).flatMap (flRaw g.size g.pos).enc ++ sp⟩ T) :: t)) ?_ (k _ (by rw [hst]; simp) ⟨_, ls.set i.toNat ⟨setAt (ls[i.toNat]'(by omega)).1 d l, hoyr⟩, [(b, Obj.cells ⟨(ls.set i.toNat ⟨setAt (ls[i.toNat]'(by omega)).1 d l, hoyr⟩).flatMap (flRaw g.size g.pos).enc ++ sp⟩ T)], As.set i.toNat Ay, rfl, ⟨fun _ _ => trivial, by simpa using hlen, some ⟨b, 0, none⟩, cap, by rw [hb, List.length_set], .inr ⟨b, sp, rfl, rfl, by simpa using h4, by simpa using h5⟩⟩, ?_, hl.set hoy i.toNat⟩)
  · refine ⟨pre, post, s, t, ⟨ls.flatMap (flRaw g.size g.pos).enc ++ sp⟩, T, by rw [h6, hst], ?_, ?_⟩
    · show 0 + i.toNat * g.size + d + l.length ≤ (ls.flatMap (flRaw g.size g.pos).enc ++ sp).length
      rw [List.length_append, flat_length]
      have : (flRaw g.size g.pos).size = g.size := rfl
      rw [this]
      have := Nat.mul_le_mul_right g.size (show i.toNat + 1 ≤ ls.length by omega)
      rw [Nat.succ_mul] at this; omega
    rw [h7]
    simp only [Nat.zero_add]
    rw [hsl]
  rw [hst] at hp
  have h8 : (s ++ t).Perm As.flatten := by
    have := (List.perm_middle (a := (b, Obj.cells ⟨ls.flatMap (flRaw g.size g.pos).enc ++ sp⟩ T)) (l₁ := s) (l₂ := t)).symm.trans hp
    exact (List.perm_cons _).1 this
  have h9 : As.flatten.Perm (As.set i.toNat Ay).flatten := by
    have q1 := flat_lists As i.toNat (by omega)
    have q2 := flat_lists (As.set i.toNat Ay) i.toNat (by simpa using (by omega : i.toNat < As.length))
    simp only [List.getElem_set_self, List.set_set] at q2
    exact q1.trans ((hperm.append_right _).trans q2.symm)
  refine List.perm_middle.trans ?_
  exact List.Perm.cons _ (h8.trans h9)
end
end Go.SX

namespace Go.SX
section
variable {P : Program} {E : World} {Γ : Ty} {n : Nat} {α : Type} {g : Gt α} {T : TypeId}
/-- an operation left to a rule, its heaplets parted anew -/
theorem VCraw.conv {o : Oper} {fr : Fr} {bl : List Blk} {R R2 : List Hp} {K : St → Prop} (h0 : RLe R R2)
    (h : VCraw P E n o ⟨fr, bl, R2⟩ (fun st => ∃ R', RLe st.R R' ∧ K ⟨st.fr, st.bl, R'⟩)) : VCraw P E n o ⟨fr, bl, R⟩ K := by
  obtain ⟨h⟩ := h
  refine ⟨fun a w hr Q => ?_⟩
  refine Oper.wp_next (h a w (hr.repart h0) Q) ?_
  rintro a' w' ⟨st, h1, R', h2, h3⟩
  obtain ⟨fr', bl', R''⟩ := st
  exact ⟨_, h1.repart h2, h3⟩
theorem lit_rd {f : Fl α} {b : Nat} {l : List Value} {y : α} {T' : TypeId} {H : Hp} (hm : (b, Obj.cells ⟨l⟩ T') ∈ H) (hl : l = f.enc y) (hy : f.wf y) : (rpSl f.rp).rd H [.slice (some ⟨b, 0, none⟩) 1 1] [y] := by
  subst hl
  refine ⟨some ⟨b, 0, none⟩, 1, rfl, by simp, fun i hi => ?_⟩
  have : i = 0 := by simpa using hi
  subst this
  refine ⟨b, 0, f.enc y, rfl, ⟨f.len y, _, _, _, hm, fun j hj => ?_⟩, rfl, hy⟩
  simp
theorem putK_mono {fr : Fr} {dst : Option Nat} {s : SV} {K K' : Fr → Prop} (h : putK n fr dst s K) (hk : ∀ fr, K fr → K' fr) : putK n fr dst s K' := by
  unfold putK at h ⊢
  split at h
  · exact hk _ h
  split at h
  · exact hk _ h
  exact h.elim
/-- one element, which owns B, is appended to the slice that owns A; the element lies in a literal of its own -/
theorem gappend1 (hΓ : TyOk P Γ) {dst : Option Nat} {s x : Operand} {sT xT e2 ty : TypeId} {pos : String} {after : Array Edge} {guard : Option (Nat × Bool)} {fr : Fr} {bl : List Blk} {R : List Hp} {K : St → Prop} {ti : TI}
    (A B : Hp) (Rr : List Hp) {base : Option Addr} {xb m cap : Nat} {xs : List α} {l : List Value} {y : α} {T' : TypeId} (hR : RLe R (A :: B :: Rr)) (ho : (gSl T g).ow [.slice base m cap] xs A) (hB : g.ow l y B)
    (hlit : [(xb, Obj.cells ⟨l⟩ T')] ∈ R)
    (hs1 : getK fr s fun sv => sv = .v (.slice base m cap)) (hx1 : getK fr x fun sv => sv = .v (.slice (some ⟨xb, 0, none⟩) 1 1))
    (hsT : undOf Γ sT = some (.slice T)) (hxT : undOf Γ xT = some (.slice e2)) (ht : tyOf Γ T = some ti) (hsz : ti.size = g.size) (hz : lenIs ti.zero.cells.toList g.size = true)
    (hby : Nat.ble ti.bytes 65536 = true) (hlen : xs.length + 1 ≤ 1073741824)
    (hk : ∀ base' cap' A', (gSl T g).ow [.slice base' (xs ++ [y]).length cap'] (xs ++ [y]) A' → putK n fr dst (.v (.slice base' (xs ++ [y]).length cap')) fun fr => K ⟨fr, bl, A' :: Rr⟩) :
    VCraw P E n ⟨dst, .call ⟨.builtin .append, #[s, x], #[sT, xT]⟩, ty, pos, after, guard⟩ ⟨fr, bl, R⟩ K := by
  have e0 : (xs ++ [y]).length = xs.length + 1 := by simp
  simp only [e0] at hk
  obtain ⟨v, ls, A0, As, e, ho, hp, hl⟩ := ho
  cases e
  obtain ⟨L, hL⟩ := hR
  obtain ⟨e1, e2'⟩ := hl.len
  have hm : m = ls.length := (by obtain ⟨_, _, _, _, e, _⟩ := ho; cases e; rfl)
  subst hm
  have hraw := raw_of (g.owrd hB)
  have hperm : R.flatten.Perm (A0 ++ (As.flatten ++ (B ++ (Rr.flatten ++ L)))) := by
    refine hL.trans ?_
    simp only [List.flatten_cons]
    have := hp.append_right (B ++ (Rr.flatten ++ L))
    simpa only [List.append_assoc] using this
  refine VCraw.conv (R2 := [A0, As.flatten ++ (B ++ (Rr.flatten ++ L))]) ⟨[], by simpa using hperm⟩ ?_
  have hmem : (xb, Obj.cells ⟨l⟩ T') ∈ St.hall ⟨[], bl, [A0, As.flatten ++ (B ++ (Rr.flatten ++ L))]⟩ := by
    have h1 : (xb, Obj.cells ⟨l⟩ T') ∈ R.flatten := List.mem_flatten.2 ⟨_, hlit, List.mem_singleton.2 rfl⟩
    have h2 := hperm.mem_iff.1 h1
    simp only [St.hall, List.flatten_cons, List.flatten_nil, List.append_nil]
    exact List.mem_append_right _ h2
  have hx : (rpSl (flRaw g.size g.pos).rp).rd (St.hall ⟨[], bl, [A0, As.flatten ++ (B ++ (Rr.flatten ++ L))]⟩) [.slice (some ⟨xb, 0, none⟩) 1 1] [⟨l, hraw⟩] := lit_rd (f := flRaw g.size g.pos) hmem rfl trivial
  refine append_ow (f := flRaw g.size g.pos) hΓ 0 rfl ho hx (fun _ _ => trivial) hs1 hx1 hsT hxT ht hsz hz hby (by rw [e1]; exact hlen) ?_
  intro base' cap' A' ho' _
  have h3 : (gSl T g).ow [.slice base' (xs.length + 1) cap'] (xs ++ [y]) (A' ++ (As ++ [B]).flatten) := by
    refine ⟨_, ls ++ [⟨l, hraw⟩], A', As ++ [B], rfl, ?_, .refl _, hl.append (.cons hB .nil)⟩
    rw [← e1]; exact ho'
  have h4 := hk base' cap' _ h3
  have e3 : ls.length + [(⟨l, hraw⟩ : RawC g.size)].length = xs.length + 1 := by rw [e1]; rfl
  rw [e3]
  refine putK_mono h4 fun fr' hK => ⟨_, ?_, hK⟩
  refine ⟨L, ?_⟩
  simp only [setR, List.flatten_cons, List.flatten_nil, List.append_nil, List.flatten_append]
  simp only [List.append_assoc]
  exact .refl _
open Classical in
/-- a whole element is stored; the slice then owns what the new element owns -/
theorem gstore1 {R : List Hp} (A B : Hp) (Rr : List Hp) {base : Option Addr} {m cap : Nat} {xs : List α} {i : Int} {b o off : Nat} {l : List Value} {F : List Hp → Prop} (hR : RLe R (A :: B :: Rr)) (h : (gSl T g).ow [.slice base m cap] xs A)
    (h0 : 0 ≤ i) (h1 : i < xs.length) (hb : base = some ⟨b, o, none⟩) (hoff : off = o + i.toNat * g.size) (y : α) (hy : g.ow l y B)
    (k : ∀ A', (gSl T g).ow [.slice base m cap] (xs.set i.toNat y) A' → F (A' :: Rr)) : VCstore R b off l F := by
  obtain ⟨v, ls, A0, As, e, ho, hp, hl⟩ := h
  cases e
  obtain ⟨L, hL⟩ := hR
  obtain ⟨e1, e2⟩ := hl.len
  have hraw := raw_of (g.owrd hy)
  obtain ⟨hw, hlen, base', cap', e, h2⟩ := ho
  cases e
  rcases h2 with ⟨rfl, rfl, rfl⟩ | ⟨b', sp, h3, rfl, h4, h5⟩
  · simp at e1; omega
  rw [hb] at h3; cases h3
  subst hoff
  have hset := flat_set (flRaw g.size g.pos) ls i.toNat ⟨l, hraw⟩ sp (by omega)
  refine .part ([[(b, Obj.cells ⟨ls.flatMap (flRaw g.size g.pos).enc ++ sp⟩ T)], As.flatten ++ (B ++ (Rr.flatten ++ L))]) ([[(b, Obj.cells ⟨(ls.set i.toNat ⟨l, hraw⟩).flatMap (flRaw g.size g.pos).enc ++ sp⟩ T)], As.flatten ++ (B ++ (Rr.flatten ++ L))])
    (([(b, Obj.cells ⟨(ls.set i.toNat ⟨l, hraw⟩).flatMap (flRaw g.size g.pos).enc ++ sp⟩ T)] ++ (As.set i.toNat B).flatten) :: Rr) ?_ ?_ ?_ (k _ ⟨_, ls.set i.toNat ⟨l, hraw⟩, [(b, Obj.cells ⟨(ls.set i.toNat ⟨l, hraw⟩).flatMap (flRaw g.size g.pos).enc ++ sp⟩ T)], As.set i.toNat B, rfl, ⟨fun _ _ => trivial, by simpa using hlen, some ⟨b, 0, none⟩, cap, by rw [hb, List.length_set], .inr ⟨b, sp, rfl, rfl, by simpa using h4, by simpa using h5⟩⟩, .refl _, hl.set hy i.toNat⟩)
  · refine ⟨[], ?_⟩
    refine hL.trans ?_
    simp only [List.flatten_cons, List.flatten_nil, List.append_nil]
    have := hp.append_right (B ++ (Rr.flatten ++ L))
    simpa only [List.append_assoc] using this
  · refine ⟨[], [As.flatten ++ (B ++ (Rr.flatten ++ L))], [], [], ⟨ls.flatMap (flRaw g.size g.pos).enc ++ sp⟩, T, rfl, ?_, ?_⟩
    · show 0 + i.toNat * g.size + l.length ≤ (ls.flatMap (flRaw g.size g.pos).enc ++ sp).length
      rw [List.length_append, flat_length, hraw.1]
      have : (flRaw g.size g.pos).size = g.size := rfl
      rw [this]
      have := Nat.mul_le_mul_right g.size (show i.toNat + 1 ≤ ls.length by omega)
      rw [Nat.succ_mul] at this; omega
    simp only [List.nil_append, Nat.zero_add]
    have hset' : setAt (ls.flatMap (flRaw g.size g.pos).enc ++ sp) (i.toNat * g.size) l = (ls.set i.toNat ⟨l, hraw⟩).flatMap (flRaw g.size g.pos).enc ++ sp := hset
    rw [hset']
  have q1 := flat_lists As i.toNat (by omega)
  have q2 := flat_lists (As.set i.toNat B) i.toNat (by simpa using (by omega : i.toNat < As.length))
  simp only [List.getElem_set_self, List.set_set] at q2
  refine ⟨As[i.toNat]'(by omega) ++ L, ?_⟩
  refine perm_cnt fun a => ?_
  have c1 := q1.count_eq a
  have c2 := q2.count_eq a
  simp only [List.count_append] at c1 c2
  simp only [List.flatten_cons, List.flatten_nil, List.append_nil, List.count_append]
  omega
theorem sl_eq {b : Option Addr} {m m' c : Nat} (h : m = m') : Value.slice b m c = Value.slice b m' c := by rw [h]
theorem gmake {z : α} {lz : List Value} {b k c : Nat} (hz : g.ow lz z []) (hn : k ≤ c) (hc : c ≤ 281474976710656) : (gSl T g).ow [.slice (some ⟨b, 0, none⟩) k c] (List.replicate k z) [(b, Obj.cells ⟨zeros c lz⟩ T)] :=
  ⟨_, List.replicate k ⟨lz, raw_of (g.owrd hz)⟩, _, List.replicate k [], rfl, Ow.make (f := flRaw g.size g.pos) (z := ⟨lz, raw_of (g.owrd hz)⟩) trivial hn hc, by simp; rfl, OwL.rep hz k⟩
end
def gI : Gt Int := flInt.gt fun k => k
def gB : Gt Bool := flBool.gt fun k => k.tmod 3 == 0
def gY : Gt UInt8 := flByte.gt fun k => UInt8.ofNat (k % 256).toNat
theorem gI_ow {x : Int} (h : okI x) : gI.ow [.int .i64 x] x [] := ⟨rfl, h, rfl⟩
theorem gB_ow {x : Bool} (_ : True) : gB.ow [.bool x] x [] := ⟨rfl, trivial, rfl⟩
theorem gY_ow {x : UInt8} (_ : True) : gY.ow [.int .u8 x.toNat] x [] := ⟨rfl, trivial, rfl⟩
theorem wrap_of {x : Int} (h1 : -9223372036854775808 ≤ x) (h2 : x ≤ 9223372036854775807) : IntKind.i64.wrap x = x := wrap_ok ⟨h1, h2⟩
theorem okI_wrap (x : Int) : okI (IntKind.i64.wrap x) := by
  unfold okI IntKind.wrap
  simp only [IntKind.bits, IntKind.signed]
  simp only [Bool.true_and, decide_eq_true_eq, ge_iff_le]
  split <;> omega
end Go.SX

namespace Go.SX
def CtR (P : Program) (f : FuncId) (args : List Value) (A0 : Hp) (pre : Hp → Prop) (post : Value → Hp → Prop) : Prop :=
  (∃ fn, P.funcs[f]? = some fn ∧ fn.name ≠ "runtime.NumGoroutine" ∧ fn.body.isSome = true) ∧
  ∀ E H w, Sat E (A0 ++ H) w → pre H → Calls P f ⟨args⟩ w fun e w' => ∃ v A, e = .returned v ∧ post v A ∧ Sat E (A ++ H) w'
def delBlk : List Blk → Nat → List Blk
  | [], _ => []
  | _ :: r, 0 => r
  | b :: r, i + 1 => b :: delBlk r i
theorem delBlk_perm : ∀ {bl : List Blk} {h : Nat} {b : Blk}, nthBlk bl h = some b → bl.Perm (b :: delBlk bl h)
  | [], _, _, e => by simp [nthBlk] at e
  | b :: r, 0, _, e => by cases e; exact .refl _
  | c :: r, i + 1, b, e => by
    have := delBlk_perm (bl := r) (h := i) (b := b) e
    exact (this.cons c).trans (.swap _ _ _)
theorem setBlk_perm : ∀ {bl bl' : List Blk} {h : Nat} {b : Blk} {cs : List Value}, nthBlk bl h = some b → setBlk bl h cs = some bl' → bl'.Perm (⟨b.id, cs, b.ty⟩ :: delBlk bl h) ∧ bl'.map Blk.id = bl.map Blk.id
  | [], _, _, _, _, e, _ => by simp [nthBlk] at e
  | b :: r, bl', 0, _, cs, e, e' => by
    cases e
    obtain ⟨i, c0, t⟩ := b
    simp only [setBlk, Option.some.injEq] at e'
    subst e'
    exact ⟨.refl _, rfl⟩
  | c :: r, bl', i + 1, b, cs, e, e' => by
    simp only [setBlk] at e'
    split at e'
    · rename_i r' hr'
      cases e'
      obtain ⟨h1, h2⟩ := setBlk_perm (bl := r) (h := i) (b := b) e hr'
      exact ⟨(h1.cons c).trans (.swap _ _ _), by simp [h2]⟩
    cases e'
section
variable {P : Program} {E : World} {Γ : Ty}
theorem Ct.toR {f : FuncId} {args : List Value} {pre : Hp → Prop} {post : Value → Hp → Prop} (h : Ct P f args [] pre post) : CtR P f args [] pre post := h
theorem CtR.intro (hΓ : TyOk P Γ) {f : FuncId} {fn : Func} (L : List Hp) (hf : P.funcs[f]? = some fn) (hn : decide (fn.name = "runtime.NumGoroutine") = false) (hb : fn.body.isSome = true) {args : List Value} (ha : Nat.ble args.length fn.ntmps = true) {A0 : Hp} {pre : Hp → Prop} {post : Value → Hp → Prop}
    (hL : L.flatten = A0) (h : ∀ E H, pre H → exFn P E Γ fn args (L ++ [H]) fun v bl R => ∃ A, post v A ∧ RLe (bl.map Blk.ent :: R) [A, H]) : CtR P f args A0 pre post := by
  refine ⟨⟨fn, hf, of_decide_eq_false hn, hb⟩, fun E H w hs hp => ?_⟩
  refine (exFn_sound hΓ hf ha (h E H hp) (by simpa [hL] using hs)).mono ?_
  rintro e w' ⟨v, bl, R', h1, h2, A, h3, L, h4⟩
  refine ⟨v, A, h1, h3, ?_⟩
  have : (St.hall ⟨[], bl, R'⟩).Perm ((A ++ H) ++ L) := by simpa [St.hall] using h4
  exact (h2.perm this).drop
theorem CtR.introB (hΓ : TyOk P Γ) {f : FuncId} {fn : Func} (svs : List SV) (bl : List Blk) (L : List Hp) (hf : P.funcs[f]? = some fn) (hn : decide (fn.name = "runtime.NumGoroutine") = false) (hb : fn.body.isSome = true) {args : List Value} (ha : Nat.ble svs.length fn.ntmps = true)
    (hargs : svs.map (SV.den bl) = args) (hok : ∀ s ∈ svs, s.ok bl) {A0 : Hp} {pre : Hp → Prop} {post : Value → Hp → Prop}
    (hL : A0.Perm (bl.map Blk.ent ++ L.flatten)) (h : ∀ E H, pre H → exFnS P E Γ fn svs bl (L ++ [H]) fun v bl R => ∃ A, post v A ∧ RLe (bl.map Blk.ent :: R) [A, H]) : CtR P f args A0 pre post := by
  refine ⟨⟨fn, hf, of_decide_eq_false hn, hb⟩, fun E H w hs hp => ?_⟩
  subst hargs
  have hs' : Sat E (St.hall ⟨[], bl, L ++ [H]⟩) w := by
    refine hs.perm ?_
    have := hL.append_right H
    simpa [St.hall, List.append_assoc] using this
  refine (exFnS_sound hΓ hf ha hok (h E H hp) hs').mono ?_
  rintro e w' ⟨v, bl, R', h1, h2, A, h3, L, h4⟩
  refine ⟨v, A, h1, h3, ?_⟩
  have : (St.hall ⟨[], bl, R'⟩).Perm ((A ++ H) ++ L) := by simpa [St.hall] using h4
  exact (h2.perm this).drop
theorem sat_le {X : Hp} {R R' : List Hp} {w : World} (hs : Sat E (X ++ R.flatten) w) (h : RLe R R') : Sat E (X ++ R'.flatten) w := by
  obtain ⟨L, hL⟩ := h
  have : (X ++ R.flatten).Perm ((X ++ R'.flatten) ++ L) := by
    rw [List.append_assoc]; exact hL.append_left X
  exact (hs.perm this).drop
/-- a call that may write heaplet number i -/
theorem callR_at (i : Nat) {f : FuncId} {args : List Value} {bl : List Blk} {R : List Hp} {A0 : Hp} {pre : Hp → Prop} {post : Value → Hp → Prop} {K : Value → List Blk → List Hp → Prop} (hi : nthR R i = some A0) (hc : CtR P f args A0 pre post)
    (hp : pre (St.hall ⟨[], bl, setR R i []⟩)) (hk : ∀ v A, post v A → K v bl (setR R i A)) : VCcall P E f args ⟨[], bl, R⟩ K := by
  obtain ⟨pr, po, e1, e2⟩ := nthR_split hi
  have perm : ∀ A : Hp, (St.hall ⟨[], bl, pr ++ A :: po⟩).Perm (A ++ St.hall ⟨[], bl, pr ++ [] :: po⟩) := by
    intro A
    simp only [St.hall, List.flatten_append, List.flatten_cons, List.nil_append]
    rw [← List.append_assoc, ← List.append_assoc, ← List.append_assoc, ← List.append_assoc]
    refine List.Perm.append_right _ ?_
    have := List.perm_append_comm (l₁ := List.map Blk.ent bl ++ pr.flatten) (l₂ := A)
    simpa only [List.append_assoc] using this
  rw [e2] at hp
  refine .intro hc.1 (fun w hs => (hc.2 E _ w ((e1 ▸ hs).perm (perm A0)) hp).mono ?_)
  rintro e w' ⟨v, A, h1, h2, h3⟩
  exact ⟨v, bl, _, h1, h3.perm (perm A).symm, rfl, by rw [← e2]; exact hk v A h2⟩
/-- a call with heaplets parted anew: A0 is what it may write, R0 the rest -/
theorem callR_part {f : FuncId} {args : List Value} {bl : List Blk} {R : List Hp} (A0 : Hp) (R0 : List Hp) {pre : Hp → Prop} {post : Value → Hp → Prop} {K : Value → List Blk → List Hp → Prop} (hc : CtR P f args A0 pre post)
    (hR : RLe R (A0 :: R0)) (hp : pre (St.hall ⟨[], bl, R0⟩)) (hk : ∀ v A, post v A → ∃ L, A.Perm L.flatten ∧ K v bl (L ++ R0)) : VCcall P E f args ⟨[], bl, R⟩ K := by
  have perm : ∀ A : Hp, (bl.map Blk.ent ++ (A :: R0).flatten).Perm (A ++ St.hall ⟨[], bl, R0⟩) := by
    intro A
    simp only [St.hall, List.flatten_cons]
    rw [← List.append_assoc, ← List.append_assoc]
    exact List.perm_append_comm.append_right _
  refine .intro hc.1 (fun w hs => (hc.2 E _ w ((sat_le hs hR).perm (perm A0)) hp).mono ?_)
  rintro e w' ⟨v, A, h1, h2, h3⟩
  obtain ⟨L, h4, h5⟩ := hk v A h2
  refine ⟨v, bl, L ++ R0, h1, h3.perm ((perm A).symm.trans ?_), rfl, h5⟩
  simp only [St.hall, List.flatten_cons, List.flatten_append]
  exact (h4.append_right _).append_left _
/-- a call that makes new memory, which is parted -/
theorem call_newP {f : FuncId} {args : List Value} {bl : List Blk} {R : List Hp} {pre : Hp → Prop} {post : Value → Hp → Prop} {K : Value → List Blk → List Hp → Prop} (hc : Ct P f args [] pre post)
    (hp : pre (St.hall ⟨[], bl, R⟩)) (hk : ∀ v A, post v A → ∃ L, A.Perm L.flatten ∧ K v bl (L ++ R)) : VCcall P E f args ⟨[], bl, R⟩ K :=
  callR_part [] R hc.toR (.refl _) hp hk
/-- a call with a pointer to block number h, which owns A1 -/
theorem callR_blk (h : Nat) {f : FuncId} {args : List Value} {bl : List Blk} {R : List Hp} (A1 : Hp) (R0 : List Hp) {b : Blk} {pre : Hp → Prop} {post : Value → Hp → Prop} {K : Value → List Blk → List Hp → Prop} (hb : nthBlk bl h = some b)
    (hR : RLe R (A1 :: R0)) (hc : CtR P f args ((b.id, Obj.cells ⟨b.cs⟩ b.ty) :: A1) pre post) (hp : pre (St.hall ⟨[], delBlk bl h, R0⟩))
    (hk : ∀ v A, post v A → ∃ cs' bl' L, setBlk bl h cs' = some bl' ∧ A.Perm ((b.id, Obj.cells ⟨cs'⟩ b.ty) :: L.flatten) ∧ K v bl' (L ++ R0)) : VCcall P E f args ⟨[], bl, R⟩ K := by
  have hbl := (delBlk_perm hb).map Blk.ent
  refine .intro hc.1 (fun w hs => (hc.2 E _ w ((sat_le hs hR).perm ?_) hp).mono ?_)
  · refine (hbl.append_right _).trans ?_
    simp only [List.map_cons, St.hall, List.flatten_cons, List.cons_append]
    refine .cons _ ?_
    rw [← List.append_assoc, ← List.append_assoc]
    exact List.perm_append_comm.append_right _
  rintro e w' ⟨v, A, h1, h2, h3⟩
  obtain ⟨cs', bl', L, h4, h5, h6⟩ := hk v A h2
  obtain ⟨g1, g2⟩ := setBlk_perm hb h4
  refine ⟨v, bl', L ++ R0, h1, h3.perm ?_, g2, h6⟩
  have g3 := (g1.map Blk.ent).symm
  refine List.Perm.trans ?_ (g3.append_right _)
  refine (h5.append_right _).trans ?_
  simp only [List.map_cons, St.hall, List.flatten_append, List.cons_append, Blk.ent]
  refine .cons _ ?_
  rw [← List.append_assoc, ← List.append_assoc]
  exact List.perm_append_comm.append_right _
/-- the ways of an open statement meet again: the slots ws are forgotten, those of mods stand for them -/
theorem draw_joinK {α : Type} {n id : Nat} {ops : Array Oper} {fr : Fr} {bl : List Blk} {R : List Hp} {K : St → Prop} (ws : List Nat) (mods : α → Fr) (bls : α → List Blk) (Rs : α → List Hp) (I : α → Prop)
    (h1 : VCdraw P E n id ops ⟨fr, bl, R⟩ (fun st' => ∃ z, I z ∧ Weak st' ⟨mods z ++ dropK ws fr, bls z, Rs z⟩)) (h2 : ∀ z, I z → K ⟨mods z ++ dropK ws fr, bls z, Rs z⟩) : VCdraw P E n id ops ⟨fr, bl, R⟩ K :=
  draw_join (fun z => ⟨mods z ++ dropK ws fr, bls z, Rs z⟩) I h1 h2
end
end Go.SX

namespace Go.SX
theorem svi_eq {a b : Int} (h : a = b) : Value.int .i64 a = Value.int .i64 b := by rw [h]
theorem u8_wrap (x : Int) : IntKind.u8.wrap x = x % 256 := by
  unfold IntKind.wrap
  simp [IntKind.bits, IntKind.signed]
theorem str_inj {a b : ByteArray} : a.toList = b.toList ↔ a = b := by
  constructor
  · intro h
    rw [ByteArray.toList_eq, ByteArray.toList_eq] at h
    obtain ⟨⟨a⟩⟩ := a; obtain ⟨⟨b⟩⟩ := b
    cases h; rfl
  rintro rfl; rfl
theorem u8_inj {a b : UInt8} : ((a.toNat : Nat) : Int) = (b.toNat : Nat) ↔ a = b := by
  constructor
  · intro h
    exact UInt8.toNat_inj.1 (by omega)
  rintro rfl; rfl
theorem setAt_len (l : List Value) : ∀ (cs : List Value) (o : Nat), (setAt cs o l).length = cs.length := by
  induction l with
  | nil => intro cs o; rfl
  | cons x r ih => intro cs o; rw [setAt, ih]; simp
theorem setAt_app_l (l1 l2 l : List Value) (d : Nat) (h : d + l.length ≤ l1.length) : setAt (l1 ++ l2) d l = setAt l1 d l ++ l2 := by
  rw [setAt_eq _ _ _ (by rw [List.length_append]; omega), setAt_eq _ _ _ h]
  rw [List.take_append_of_le_length (by omega), List.drop_append_of_le_length (by omega)]
  simp
theorem setAt_app_r (l1 l2 l : List Value) (d : Nat) (h : d + l.length ≤ l2.length) : setAt (l1 ++ l2) (l1.length + d) l = l1 ++ setAt l2 d l := by
  rw [setAt_eq _ _ _ (by rw [List.length_append]; omega), setAt_eq _ _ _ h]
  rw [List.take_append, List.drop_append, List.take_of_length_le (by omega), List.drop_eq_nil_of_le (by omega : l1.length ≤ l1.length + d + l.length)]
  rw [show l1.length + d - l1.length = d by omega, show l1.length + d + l.length - l1.length = d + l.length by omega]
  simp
theorem setAt_whole (l l' : List Value) (h : l'.length = l.length) : setAt l 0 l' = l' := by
  rw [setAt_eq _ _ _ (by omega)]
  simp [h]
theorem setAt_at {l l1 : List Value} (d d' s : Nat) (l' : List Value) (hl : l1 = (l.drop d).take s) (h1 : d + s ≤ l.length) (h2 : d' + l'.length ≤ s) : setAt l d (setAt l1 d' l') = setAt l (d + d') l' := by
  have e1 : l1.length = s := by rw [hl, List.length_take, List.length_drop]; omega
  have e0 : (setAt l1 d' l').length = s := by rw [setAt_len, e1]
  rw [setAt_eq _ _ _ (by rw [setAt_len]; omega), e0, setAt_eq _ _ _ (by omega), setAt_eq _ _ _ (by omega)]
  have a1 : l1.take d' = (l.drop d).take d' := by rw [hl, List.take_take, Nat.min_eq_left (by omega)]
  have a2 : l1.drop (d' + l'.length) ++ l.drop (d + s) = l.drop (d + d' + l'.length) := by
    rw [Nat.add_assoc d]
    generalize hk : d' + l'.length = k at *
    rw [← List.drop_drop, ← List.drop_drop, hl]
    have hm : (l.drop d).length = l.length - d := List.length_drop
    generalize l.drop d = m at *
    rw [← List.drop_append_of_le_length (by rw [List.length_take]; omega), List.take_append_drop]
  rw [a1]
  have e1' := e1
  have a3 : l.take d ++ (l.drop d).take d' = l.take (d + d') := by rw [List.take_add]
  rw [← a2, ← a3]
  simp only [List.append_assoc]
section
variable {α β γ : Type}
/-- the cells from d on of a value under g are a value under h -/
structure Fld (g : Gt α) (h : Gt β) (get : α → β) (upd : α → β → α) (d : Nat) : Prop where
  fit : d + h.size ≤ g.size
  rd : ∀ {H : Hp} {l : List Value} {x : α}, g.rd H l x → h.rd H ((l.drop d).take h.size) (get x)
  ow : ∀ {l : List Value} {x : α} {A : Hp}, g.ow l x A → ∃ Af Ar, A.Perm (Af ++ Ar) ∧ h.ow ((l.drop d).take h.size) (get x) Af ∧ ∀ l' y B, h.ow l' y B → g.ow (setAt l d l') (upd x y) (B ++ Ar)
theorem Fld.id (g : Gt α) : Fld g g (fun x => x) (fun _ y => y) 0 where
  fit := by omega
  rd h := by
    have e := g.len h
    rw [List.drop_zero, ← e, List.take_length]; exact h
  ow h := by
    have e := g.len (g.owrd h)
    refine ⟨_, [], by rw [List.append_nil], by rw [List.drop_zero, ← e, List.take_length]; exact h, fun l' y B hB => ?_⟩
    have e' := g.len (g.owrd hB)
    rw [setAt_whole _ _ (by omega), List.append_nil]; exact hB
theorem Fld.fst (g : Gt α) (h : Gt β) : Fld (gPair g h) g (fun x => x.1) (fun x y => (y, x.2)) 0 where
  fit := by show 0 + g.size ≤ g.size + h.size; omega
  rd := by
    rintro H l x ⟨l1, l2, rfl, h1, h2⟩
    have e := g.len h1
    rw [List.drop_zero, ← e, List.take_left]; exact h1
  ow := by
    rintro l x A ⟨l1, l2, A1, A2, rfl, hp, h1, h2⟩
    have e := g.len (g.owrd h1)
    refine ⟨A1, A2, hp, by rw [List.drop_zero, ← e, List.take_left]; exact h1, fun l' y B hB => ?_⟩
    have e' := g.len (g.owrd hB)
    rw [setAt_app_l _ _ _ _ (by omega), setAt_whole _ _ (by omega)]
    exact ⟨l', l2, B, A2, rfl, .refl _, hB, h2⟩
theorem Fld.snd (g : Gt α) (h : Gt β) : Fld (gPair g h) h (fun x => x.2) (fun x y => (x.1, y)) g.size where
  fit := by show g.size + h.size ≤ g.size + h.size; omega
  rd := by
    rintro H l x ⟨l1, l2, rfl, h1, h2⟩
    have e := g.len h1
    have e2 := h.len h2
    rw [← e, List.drop_left, ← e2, List.take_length]; exact h2
  ow := by
    rintro l x A ⟨l1, l2, A1, A2, rfl, hp, h1, h2⟩
    have e := g.len (g.owrd h1)
    have e2 := h.len (h.owrd h2)
    refine ⟨A2, A1, hp.trans List.perm_append_comm, by rw [← e, List.drop_left, ← e2, List.take_length]; exact h2, fun l' y B hB => ?_⟩
    have e' := h.len (h.owrd hB)
    have := setAt_app_r l1 l2 l' 0 (by omega)
    rw [Nat.add_zero, e] at this
    rw [this, setAt_whole _ _ (by omega)]
    exact ⟨l1, l', A1, B, rfl, List.perm_append_comm, h1, hB⟩
theorem Fld.iso {g : Gt α} {h : Gt β} {get : α → β} {upd : α → β → α} {d : Nat} {f : γ → α} {f' : α → γ} (F : Fld g h get upd d) {get' : γ → β} {upd' : γ → β → γ} (hg : ∀ x, get' x = get (f x)) (hu : ∀ x y, f (upd' x y) = upd (f x) y) : Fld (gIso g f f') h get' upd' d where
  fit := F.fit
  rd hh := by rw [hg]; exact F.rd hh
  ow hh := by
    obtain ⟨Af, Ar, h1, h2, h3⟩ := F.ow hh
    refine ⟨Af, Ar, h1, by rw [hg]; exact h2, fun l' y B hB => ?_⟩
    show g.ow _ (f _) _
    rw [hu]; exact h3 l' y B hB
theorem Fld.comp {g : Gt α} {h : Gt β} {k : Gt γ} {get : α → β} {upd : α → β → α} {d : Nat} {get' : β → γ} {upd' : β → γ → β} {d' : Nat} (F : Fld g h get upd d) (G : Fld h k get' upd' d') : Fld g k (fun x => get' (get x)) (fun x y => upd x (upd' (get x) y)) (d + d') where
  fit := by have := F.fit; have := G.fit; omega
  rd {H l x} hh := by
    have := G.rd (F.rd hh)
    have hf := G.fit
    rw [List.drop_take, List.take_take, Nat.min_eq_left (by omega), List.drop_drop] at this
    exact this
  ow {l x A} hh := by
    have hf := G.fit
    have hf2 := F.fit
    have el := g.len (g.owrd hh)
    obtain ⟨Af, Ar, h1, h2, h3⟩ := F.ow hh
    obtain ⟨Bf, Br, k1, k2, k3⟩ := G.ow h2
    refine ⟨Bf, Br ++ Ar, ?_, ?_, fun l' y B hB => ?_⟩
    · refine h1.trans ?_
      rw [← List.append_assoc]; exact k1.append_right _
    · rw [List.drop_take, List.take_take, Nat.min_eq_left (by omega), List.drop_drop] at k2
      exact k2
    have e' := k.len (k.owrd hB)
    have := h3 _ _ _ (k3 l' y B hB)
    rw [setAt_at (l := l) d d' h.size l' rfl (by omega) (by omega)] at this
    rw [← List.append_assoc]; exact this
/-- what a part l of a memory A is, and what the whole is when the part has changed -/
def Foc (h : Gt β) (l : List Value) (y : β) (A : Hp) (back : β → Hp → Prop) : Prop :=
  ∃ Af Ar, A.Perm (Af ++ Ar) ∧ h.ow l y Af ∧ ∀ y' B A', h.ow l y' B → A'.Perm (B ++ Ar) → back y' A'
theorem setAt_self (l : List Value) (d s : Nat) (h : d + s ≤ l.length) : setAt l d ((l.drop d).take s) = l := by
  rw [setAt_eq _ _ _ (by rw [List.length_take, List.length_drop]; omega)]
  rw [List.length_take, List.length_drop, Nat.min_eq_left (by omega), ← List.drop_drop, List.append_assoc, List.take_append_drop, List.take_append_drop]
theorem Fld.foc {g : Gt α} {h : Gt β} {get : α → β} {upd : α → β → α} {d : Nat} (F : Fld g h get upd d) {l : List Value} {x : α} {A : Hp} (ho : g.ow l x A) : Foc h ((l.drop d).take h.size) (get x) A (fun y A' => g.ow l (upd x y) A') := by
  obtain ⟨Af, Ar, h1, h2, h3⟩ := F.ow ho
  refine ⟨Af, Ar, h1, h2, fun y' B A' hB hp => g.owp ?_ hp⟩
  have := h3 _ _ _ hB
  rwa [setAt_self _ _ _ (by have := F.fit; have := g.len (g.owrd ho); omega)] at this
variable {P : Program} {E : World} {Γ : Ty} {n : Nat} {g : Gt α} {T : TypeId}
theorem gfoc {h : Gt β} {get : α → β} {upd : α → β → α} {d : Nat} (F : Fld g h get upd d) {base : Option Addr} {m cap : Nat} {xs : List α} {A : Hp} (ho : (gSl T g).ow [.slice base m cap] xs A) (z : α) (i : Nat) (hi : i < xs.length) :
    ∃ b o lx, base = some ⟨b, o, none⟩ ∧ g.rd A lx (xs[i]?.getD z) ∧ RdCells A b (o + i * g.size) g.size lx ∧ Foc h ((lx.drop d).take h.size) (get (xs[i]?.getD z)) A (fun y A' => (gSl T g).ow [.slice base m cap] (xs.set i (upd (xs[i]?.getD z) y)) A') := by
  obtain ⟨lx, Ax, rest, b, o, hb, hp, hx, hr, hc⟩ := gopen ho i hi
  rw [List.getElem?_eq_getElem hi, Option.getD_some]
  refine ⟨b, o, lx, hb, g.mono (fun p h' => hp.mem_iff.2 (List.mem_append_left _ h')) (g.owrd hx), hr.mono fun p h' => hp.mem_iff.2 (List.mem_append_right _ h'), ?_⟩
  obtain ⟨Af, Ar, h1, h2, h3⟩ := F.foc hx
  refine ⟨Af, Ar ++ rest, ?_, h2, fun y' B A' hB hA' => ?_⟩
  · refine hp.trans ?_
    rw [← List.append_assoc]; exact h1.append_right _
  refine hc _ (B ++ Ar) A' (h3 y' B (B ++ Ar) hB (.refl _)) ?_
  rw [List.append_assoc]; exact hA'
/-- a part of an element of an owned slice is read; it may be handed on -/
theorem load_foc {h : Gt β} {get : α → β} {upd : α → β → α} {d : Nat} (F : Fld g h get upd d) (z : α) {H' A : Hp} {base : Option Addr} {m cap : Nat} {xs : List α} {i : Int} {b o off : Nat} {G : List Value → Prop}
    (ho : (gSl T g).ow [.slice base m cap] xs A) (h0 : 0 ≤ i) (h1 : i < xs.length) (hb : base = some ⟨b, o, none⟩) (hoff : off = o + i.toNat * g.size + d) (sub : ∀ p ∈ A, p ∈ H')
    (k : ∀ l, h.rd A l (get (xs[i.toNat]?.getD z)) → Foc h l (get (xs[i.toNat]?.getD z)) A (fun y A' => (gSl T g).ow [.slice base m cap] (xs.set i.toNat (upd (xs[i.toNat]?.getD z) y)) A') → G l) : VCload H' b off h.size G := by
  obtain ⟨b', o', lx, hb', hrd, hr, hf⟩ := gfoc F ho z i.toNat (by omega)
  rw [hb] at hb'; cases hb'
  have hfit := F.fit
  have el := g.len hrd
  refine .intro ((lx.drop d).take h.size) ?_ (k _ (F.rd hrd) hf)
  obtain ⟨g1, cs, T', fz, g2, g3⟩ := hr
  refine ⟨by rw [List.length_take, List.length_drop]; omega, cs, T', fz, sub _ g2, fun j hj => ?_⟩
  have := g3 (d + j) (by omega)
  rw [hoff, Nat.add_assoc (o + i.toNat * g.size) d j, this, List.getElem?_take, if_pos hj, List.getElem?_drop]
open Classical in
/-- a call that writes what the part l owns -/
theorem call_foc (i : Nat) {h : Gt β} {l : List Value} {y y' : β} {A : Hp} {back : β → Hp → Prop} {Q : Value → Prop} {f : FuncId} {args : List Value} {bl : List Blk} {R : List Hp} {pre : Hp → Prop} {K : Value → List Blk → List Hp → Prop} (hi : nthR R i = some A)
    (hf : Foc h l y A back) (hc : ∀ Af, h.ow l y Af → CtR P f args Af pre (fun v A' => Q v ∧ h.ow l y' A')) (hp : ∀ H, (∀ p ∈ St.hall ⟨[], bl, setR R i []⟩, p ∈ H) → pre H)
    (hk : ∀ v A', Q v → back y' A' → K v bl (setR R i A')) : VCcall P E f args ⟨[], bl, R⟩ K := by
  obtain ⟨Af, Ar, h1, h2, h3⟩ := hf
  obtain ⟨pr, po, e1, e2⟩ := nthR_split hi
  have perm : ∀ A B C : Hp, A.Perm (B ++ C) → (St.hall ⟨[], bl, pr ++ A :: po⟩).Perm (B ++ (C ++ St.hall ⟨[], bl, pr ++ [] :: po⟩)) := by
    intro A B C hAB
    refine perm_cnt fun a => ?_
    have := hAB.count_eq a
    simp only [St.hall, List.flatten_append, List.flatten_cons, List.count_append, List.nil_append] at *
    omega
  have hc' := hc Af h2
  refine .intro hc'.1 (fun w hs => (hc'.2 E (Ar ++ St.hall ⟨[], bl, pr ++ [] :: po⟩) w ?_ (hp _ fun p hp' => List.mem_append_right _ (by rw [e2] at hp'; exact hp'))).mono ?_)
  · exact (e1 ▸ hs).perm (perm A Af Ar h1)
  rintro e w' ⟨v, A', k1, ⟨k2, k3⟩, k4⟩
  refine ⟨v, bl, setR R i (A' ++ Ar), k1, ?_, rfl, hk v _ k2 (h3 y' A' _ k3 (.refl _))⟩
  rw [e2]
  exact k4.perm (perm (A' ++ Ar) A' Ar (.refl _)).symm
/-- a call that gives no memory; of its answer Q is known -/
theorem call_q {Q : Value → Prop} {f : FuncId} {args : List Value} {bl : List Blk} {R : List Hp} {pre : Hp → Prop} {K : Value → List Blk → List Hp → Prop} (hc : Ct P f args [] pre (fun v A => Q v ∧ A = []))
    (hp : pre (St.hall ⟨[], bl, R⟩)) (hk : ∀ v, Q v → K v bl R) : VCcall P E f args ⟨[], bl, R⟩ K := by
  refine call_newP hc hp ?_
  rintro v A ⟨h, rfl⟩
  exact ⟨[], by simp, hk v h⟩
/-- a plain part is stored -/
theorem Fld.st {h : Gt β} {get : α → β} {upd : α → β → α} {d : Nat} (F : Fld g h get upd d) {x : α} {v : β} {l : List Value} (hpl : ∀ l y A, h.ow l y A → A = []) (ho : h.ow l v []) :
    ∀ lx Ax, g.ow lx x Ax → d + l.length ≤ g.size ∧ ∃ Ay, g.ow (setAt lx d l) (upd x v) Ay ∧ Ax.Perm Ay := by
  intro lx Ax hx
  have e := h.len (h.owrd ho)
  obtain ⟨Af, Ar, h1, h2, h3⟩ := F.ow hx
  have := hpl _ _ _ h2
  subst this
  exact ⟨by rw [e]; exact F.fit, _, h3 l v [] ho, h1⟩
/-- a plain part of an element of an owned slice is stored -/
theorem gstoreN {h : Gt β} {get : α → β} {upd : α → β → α} {d : Nat} (F : Fld g h get upd d) (z : α) (k : Nat) {R : List Hp} {A : Hp} {base : Option Addr} {m cap : Nat} {xs : List α} {i : Int} {b o off : Nat} {l : List Value} {G : List Hp → Prop} (j : Nat) (hj : nthR R j = some A) (hk : i = (k : Int)) (ho : (gSl T g).ow [.slice base m cap] xs A)
    (h0 : 0 ≤ i) (h1 : i < xs.length) (hb : base = some ⟨b, o, none⟩) (hoff : off = o + i.toNat * g.size + d) (hpl : ∀ l y A, h.ow l y A → A = []) (y : β) (hy : h.ow l y [])
    (c : ∀ A', (gSl T g).ow [.slice base m cap] (xs.set k (upd (xs[k]?.getD z) y)) A' → G (setR R j A')) : VCstore R b off l G := by
  subst hk
  refine gstore j hj ho h0 h1 hb d hoff (upd (xs[k]?.getD z) y) ?_ fun A' _ o => c A' (by simpa using o)
  have : xs[(k : Int).toNat]'(by omega) = xs[k]?.getD z := by
    have hlt : k < xs.length := by omega
    simp [List.getElem?_eq_getElem hlt]
  rw [this]
  exact F.st hpl hy
theorem gstore1N (k : Nat) {R : List Hp} (A B : Hp) (Rr : List Hp) {base : Option Addr} {m cap : Nat} {xs : List α} {i : Int} {b o off : Nat} {l : List Value} {G : List Hp → Prop} (hR : RLe R (A :: B :: Rr)) (hk : i = (k : Int)) (h : (gSl T g).ow [.slice base m cap] xs A)
    (h0 : 0 ≤ i) (h1 : i < xs.length) (hb : base = some ⟨b, o, none⟩) (hoff : off = o + i.toNat * g.size) (y : α) (hy : g.ow l y B)
    (c : ∀ A', (gSl T g).ow [.slice base m cap] (xs.set k y) A' → G (A' :: Rr)) : VCstore R b off l G := by
  subst hk
  exact gstore1 A B Rr hR h h0 h1 hb hoff y hy fun A' o => c A' (by simpa using o)
theorem CtR.introP (hΓ : TyOk P Γ) {f : FuncId} {fn : Func} (L : List Hp) (hf : P.funcs[f]? = some fn) (hn : decide (fn.name = "runtime.NumGoroutine") = false) (hb : fn.body.isSome = true) {args : List Value} (ha : Nat.ble args.length fn.ntmps = true) {A0 : Hp} {pre : Hp → Prop} {post : Value → Hp → Prop}
    (hL : A0.Perm L.flatten) (h : ∀ E H, pre H → exFn P E Γ fn args (L ++ [H]) fun v bl R => ∃ A, post v A ∧ RLe (bl.map Blk.ent :: R) [A, H]) : CtR P f args A0 pre post := by
  have := CtR.intro (A0 := L.flatten) (post := post) hΓ L hf hn hb ha rfl h
  refine ⟨this.1, fun E H w hs hp => this.2 E H w (hs.perm (hL.append_right H)) hp⟩
/-- an owned slice whose element number k is x -/
def OwE (T : TypeId) (g : Gt α) (base : Option Addr) (m cap : Nat) (xs : List α) (k : Nat) (x : α) (A : Hp) : Prop :=
  k < xs.length ∧ (gSl T g).ow [.slice base m cap] (xs.set k x) A
theorem OwE.mk {base : Option Addr} {m cap : Nat} {xs : List α} {A : Hp} (z : α) (k : Nat) (h : (gSl T g).ow [.slice base m cap] xs A) (hk : k < xs.length) :
    ∃ x, x = xs[k]?.getD z ∧ OwE T g base m cap xs k x A := by
  refine ⟨_, rfl, hk, ?_⟩
  have : xs.set k (xs[k]?.getD z) = xs := by
    rw [List.getElem?_eq_getElem hk, Option.getD_some, List.set_getElem_self]
  rw [this]; exact h
theorem oe_idx {base : Option Addr} {m cap : Nat} {xs : List α} {A : Hp} {k : Nat} {x : α} {i : Int} {F : Nat → Nat → Prop} (h : OwE T g base m cap xs k x A) (hk : i = (k : Int)) (c : ∀ b o, base = some ⟨b, o, none⟩ → F b o) : VCidx base m i F := by
  obtain ⟨h1, h2⟩ := h
  subst hk
  exact idx_rd ((gSl T g).owrd h2) (by omega) (by rw [List.length_set]; omega) c
theorem oe_load {h : Gt β} {get : α → β} {upd : α → β → α} {d : Nat} (F : Fld g h get upd d) {H' A : Hp} {base : Option Addr} {m cap : Nat} {xs : List α} {k : Nat} {x : α} {i : Int} {b o off : Nat} {G : List Value → Prop} (ho : OwE T g base m cap xs k x A) (hk : i = (k : Int))
    (hb : base = some ⟨b, o, none⟩) (hoff : off = o + i.toNat * g.size + d) (sub : ∀ p ∈ A, p ∈ H')
    (c : ∀ l, h.rd A l (get x) → Foc h l (get x) A (fun y A' => ∃ x', x' = upd x y ∧ OwE T g base m cap xs k x' A') → G l) : VCload H' b off h.size G := by
  obtain ⟨h1, h2⟩ := ho
  subst hk
  have e : ∀ y : α, (xs.set k y)[(k : Int).toNat]?.getD x = y := fun y => by simp [h1]
  refine load_foc F x h2 (by omega) (by rw [List.length_set]; omega) hb hoff sub fun l hl hf => ?_
  rw [e] at hl hf
  refine c l hl ?_
  obtain ⟨Af, Ar, k1, k2, k3⟩ := hf
  refine ⟨Af, Ar, k1, k2, fun y' B A' hB hp => ⟨_, rfl, h1, ?_⟩⟩
  have := k3 y' B A' hB hp
  simp only [Int.toNat_natCast, List.set_set] at this
  exact this
theorem oe_store {h : Gt β} {get : α → β} {upd : α → β → α} {d : Nat} (F : Fld g h get upd d) {R : List Hp} {A : Hp} {base : Option Addr} {m cap : Nat} {xs : List α} {k : Nat} {x : α} {i : Int} {b o off : Nat} {l : List Value} {G : List Hp → Prop} (j : Nat) (hj : nthR R j = some A) (ho : OwE T g base m cap xs k x A) (hk : i = (k : Int))
    (hb : base = some ⟨b, o, none⟩) (hoff : off = o + i.toNat * g.size + d) (hpl : ∀ l y A, h.ow l y A → A = []) (y : β) (hy : h.ow l y [])
    (c : ∀ x' A', x' = upd x y → OwE T g base m cap xs k x' A' → G (setR R j A')) : VCstore R b off l G := by
  obtain ⟨h1, h2⟩ := ho
  have e : ∀ y : α, (xs.set k y)[k]?.getD x = y := fun y => by simp [h1]
  refine gstoreN F x k j hj hk h2 (by omega) (by rw [List.length_set]; omega) hb hoff hpl y hy fun A' o => c _ A' rfl ⟨h1, ?_⟩
  rw [List.set_set, e] at o
  exact o
theorem OwE.done {base : Option Addr} {m cap : Nat} {xs : List α} {A : Hp} {k : Nat} {x : α} {ys : List α} (h : OwE T g base m cap xs k x A) (e : xs.set k x = ys) : (gSl T g).ow [.slice base m cap] ys A := e ▸ h.2
theorem loop_stepA {ε : Type} {st' : St} {I : ε → Prop} {μ : ε → Nat} {J : ε → St} {m0 : Nat} (x : ε) (h3 : RLe st'.R (J x).R) (h1 : FrLe st'.bl (J x).bl st'.fr (J x).fr) (h2 : BlLe st'.bl (J x).bl) (h4 : I x) (h5 : μ x < m0) :
    ∃ x', I x' ∧ μ x' < m0 ∧ Weak st' (J x') := ⟨x, h4, h5, h1, h2, h3⟩
theorem join_stepA {ε : Type} {st' : St} {I : ε → Prop} {J : ε → St} (x : ε) (h3 : RLe st'.R (J x).R) (h1 : FrLe st'.bl (J x).bl st'.fr (J x).fr) (h2 : BlLe st'.bl (J x).bl) (h4 : I x) :
    ∃ x', I x' ∧ Weak st' (J x') := ⟨x, h4, h1, h2, h3⟩
theorem keep_sub {fr fr' : Fr} {bl bl' : List Blk} {R R' : List Hp} (h1 : ∀ b ∈ bl, b ∈ bl') (h2 : ∀ A ∈ R, A ∈ R') : ∀ p ∈ St.hall ⟨fr, bl, R⟩, p ∈ St.hall ⟨fr', bl', R'⟩ := by
  intro p hp
  simp only [St.hall, List.mem_append, List.mem_map, List.mem_flatten] at hp ⊢
  rcases hp with ⟨b, hb, rfl⟩ | ⟨A, hA, hp⟩
  · exact .inl ⟨b, h1 b hb, rfl⟩
  exact .inr ⟨A, h2 A hA, hp⟩
theorem gI_pl : ∀ l y A, gI.ow l y A → A = [] := fun _ _ _ h => h.2.2
theorem gB_pl : ∀ l y A, gB.ow l y A → A = [] := fun _ _ _ h => h.2.2
theorem fl_pl {f : Fl α} {mk : Int → α} {sz : α → Nat} : ∀ l y A, (f.gt mk sz).ow l y A → A = [] := fun _ _ _ h => h.2.2
theorem mkL_get (g : Gt α) (z : α) (xs : List α) (k0 : Int) (i : Nat) (h : i < xs.length) : (mkL g k0 xs)[i]?.getD z = g.mark (k0 + cntL g (xs.take i)) (xs[i]?.getD z) := by
  have e : xs = xs.take i ++ xs[i] :: xs.drop (i + 1) := by
    rw [← List.drop_eq_getElem_cons h, List.take_append_drop]
  have e1 : (mkL g k0 (xs.take i)).length = i := by rw [mkL_len, List.length_take]; omega
  conv => lhs; rw [e, mkL_append]
  rw [List.getElem?_append_right (by omega), e1, Nat.sub_self, List.getElem?_eq_getElem h, Option.getD_some]
  simp [mkL]
theorem mk_step (g : Gt α) (z : α) (xs : List α) (k0 : Int) (i : Nat) (h : i < xs.length) :
    (mkL g k0 (xs.take i) ++ xs.drop i).set i (g.mark (k0 + cntL g (xs.take i)) (xs[i]?.getD z)) = mkL g k0 (xs.take (i + 1)) ++ xs.drop (i + 1) := by
  have e : (mkL g k0 (xs.take i)).length = i := by rw [mkL_len, List.length_take]; omega
  rw [List.set_append_right _ _ (by omega), e, Nat.sub_self, List.drop_eq_getElem_cons h, List.set_cons_zero, List.getElem?_eq_getElem h, Option.getD_some, ← List.take_append_getElem h, mkL_append]
  simp [mkL]
theorem mk_get (g : Gt α) (z : α) (xs : List α) (k0 : Int) (i : Nat) (h : i < xs.length) : (mkL g k0 (xs.take i) ++ xs.drop i)[i]?.getD z = xs[i]?.getD z := by
  have e : (mkL g k0 (xs.take i)).length = i := by rw [mkL_len, List.length_take]; omega
  rw [List.getElem?_append_right (by omega), e, Nat.sub_self, List.getElem?_drop, Nat.add_zero]
theorem mk_len (g : Gt α) (xs : List α) (k0 : Int) (i : Nat) (h : i ≤ xs.length) : (mkL g k0 (xs.take i) ++ xs.drop i).length = xs.length := by
  rw [List.length_append, mkL_len, List.length_take, List.length_drop]; omega
theorem cntL_step (g : Gt α) (xs : List α) (k : Nat) (z : α) (h : k < xs.length) : cntL g (xs.take (k + 1)) = cntL g (xs.take k) + g.cnt (xs[k]?.getD z) := by
  rw [← List.take_append_getElem h, cntL_append, List.getElem?_eq_getElem h]; rfl
theorem cntL_take_le (g : Gt α) (xs : List α) (k : Nat) : cntL g (xs.take k) ≤ cntL g xs := by
  conv => rhs; rw [← List.take_append_drop k xs]
  rw [cntL_append]; omega
end
end Go.SX

namespace Go.SX
theorem strOfNums_u8 (xs : List UInt8) : strOfNums (xs.map fun x => (x.toNat : Int)) = ⟨xs.toArray⟩ := by
  unfold strOfNums
  congr 2
  rw [List.map_map]
  conv => rhs; rw [← List.map_id xs]
  apply List.map_congr_left
  intro x _
  simp
section
variable {P : Program} {E : World} {Γ : Ty} {n : Nat}
/-- a slice of bytes becomes a text -/
theorem conv_bs (hΓ : TyOk P Γ) (xs : List UInt8) {dst : Option Nat} {x : Operand} {t u e ty : TypeId} {pos : String} {after : Array Edge} {guard : Option (Nat × Bool)} {fr : Fr} {bl : List Blk} {R : List Hp} {K : St → Prop}
    {base : Option Addr} {m cap : Nat} (hx1 : getK fr x fun sv => sv = .v (.slice base m cap)) (hr : (rpSl flByte.rp).rd (St.hall ⟨[], bl, R⟩) [.slice base m cap] xs)
    (ht : undOf Γ t = some (.slice e)) (he : undOf Γ e = some (.int .u8)) (hu : undOf Γ u = some .string)
    (hk : putK n fr dst (.v (.string ⟨xs.toArray⟩)) fun fr => K ⟨fr, bl, R⟩) : VCraw P E n ⟨dst, .convert t u x, ty, pos, after, guard⟩ ⟨fr, bl, R⟩ K := by
  refine ⟨fun a w hrel Q => ?_⟩
  obtain ⟨sv, g1, _, rfl⟩ := getK_sound hrel hx1
  refine wp_value (s := .v _) (v := .string ⟨xs.toArray⟩) ?_ hrel rfl trivial hk
  have key : (convert t u (.slice base m cap)).run P w = .ok (.string ⟨xs.toArray⟩) w := by
    obtain ⟨base', cap', e1, h1, h2⟩ := hr
    cases e1
    have ht' := undOf_ok hΓ ht
    have he' := undOf_ok hΓ he
    have hu' := undOf_ok hΓ hu
    cases xs with
    | nil =>
      rw [run_convert_bytes_string w t u e _ _ _ ht' he' hu']
      cases base with
      | none => rfl
      | some a => exact run_bytesToString w a 0 cap [] rfl
    | cons x0 r =>
      obtain ⟨b, o, l', hb, hc, _⟩ := h2 0 (by simp)
      subst hb
      rw [← strOfNums_u8]
      refine run_convert_bytes_arg w t e ht' he' b o (x0 :: r).length cap ((x0 :: r).map fun x => (x.toNat : Int)) (by simp) (fun i hi => ?_) u hu'
      obtain ⟨b2, o2, l2, hb2, hc2, hl2, _⟩ := h2 i hi
      cases hb2
      obtain ⟨_, cs, T, fz, k1, k2⟩ := hc2
      have k3 := k2 0 (by show 0 < 1; omega)
      rw [hrel.sat.cell k1]
      have e2 : flByte.rp.size = 1 := rfl
      rw [e2, Nat.mul_one, Nat.add_zero] at k3
      rw [k3, hl2, List.getD_eq_getElem?_getD, List.getElem?_map, List.getElem?_eq_getElem hi]
      rfl
  simp only [execOp, g1, SV.den, Sem.run_bind, key, Sem.run_pure, Result.andThen_ok]
theorem bsz (l : List UInt8) : (⟨l.toArray⟩ : ByteArray).size = l.length := by simp [ByteArray.size]
def inU8 : List Int → Prop
  | [] => True
  | v :: r => (0 ≤ v ∧ v < 256) ∧ inU8 r
theorem lit_bs (vs : List Int) {b : Nat} {e : TypeId} {H : Hp} {cs : List Value} (hm : (b, Obj.cells ⟨cs⟩ e) ∈ H) (hc : cs = vs.map fun v => Value.int .u8 v) (h : inU8 vs) (hl : vs.length ≤ 9223372036854775807) : (rpSl flByte.rp).rd H [.slice (some ⟨b, 0, none⟩) vs.length vs.length] (vs.map fun v => UInt8.ofNat v.toNat) := by
  subst hc
  refine ⟨some ⟨b, 0, none⟩, vs.length, by simp, by simpa using hl, fun i hi => ?_⟩
  have hi' : i < vs.length := by simpa using hi
  refine ⟨b, 0, [.int .u8 vs[i]], rfl, ⟨rfl, _, _, _, hm, fun j hj => ?_⟩, ?_, trivial⟩
  · have : j = 0 := by have : j < 1 := hj; omega
    subst this
    have e2 : flByte.rp.size = 1 := rfl
    simp [e2, hi']
  have key : ∀ (vs : List Int) (i : Nat) (hi : i < vs.length), inU8 vs → 0 ≤ vs[i] ∧ vs[i] < 256 := by
    intro vs
    induction vs with
    | nil => intro i hi; simp at hi
    | cons v r ih =>
      intro i hi h
      cases i with
      | zero => exact h.1
      | succ i => exact ih i (by simpa using hi) h.2
  have := key vs i hi' h
  show [Value.int .u8 vs[i]] = [.int .u8 ((vs.map fun v => UInt8.ofNat v.toNat)[i]).toNat]
  rw [List.getElem_map]
  simp; omega
end
end Go.SX

namespace Go.Proofs.YtcnclhjhnjpeiaaGreatDoor
open Go.SX Go.Proofs
theorem mixed : Tryz.prog.follows .mixedOrders = true := by kernel_rfl
theorem rd_len {α : Type} {r : Rp α} {H : Hp} {base : Option Addr} {m cap : Nat} {xs : List α} (h : (rpSl r).rd H [.slice base m cap] xs) : m = xs.length ∧ xs.length ≤ 9223372036854775807 := by
  obtain ⟨_, _, e, h1, _⟩ := h; cases e; exact ⟨rfl, h1.2⟩
theorem take_step {α : Type} (xs : List α) (k : Nat) (z : α) (h : k < xs.length) : (xs.take k ++ List.replicate (xs.length - k) z).set k (xs[k]?.getD z) = xs.take (k + 1) ++ List.replicate (xs.length - (k + 1)) z := by
  rw [List.getElem?_eq_getElem h, Option.getD_some]
  obtain ⟨j, hj⟩ : ∃ j, xs.length - k = j + 1 := ⟨xs.length - k - 1, by omega⟩
  rw [List.set_append_right _ _ (by rw [List.length_take]; omega), hj, show xs.length - (k + 1) = j by omega, List.length_take, show k - min k xs.length = 0 by omega, List.replicate_succ, List.set_cons_zero, ← List.take_append_getElem h, List.append_assoc, List.singleton_append]
theorem take_stepz {α : Type} (xs : List α) (k : Nat) (z z' : α) (h : k < xs.length) : (xs.take k ++ List.replicate (xs.length - k) z').set k (xs[k]?.getD z) = xs.take (k + 1) ++ List.replicate (xs.length - (k + 1)) z' := by
  rw [← take_step xs k z' h, List.getElem?_eq_getElem h, Option.getD_some, Option.getD_some]
theorem eq_step {α : Type} {xs ys : List α} {k : Nat} (z : α) (h : xs.length = ys.length) (he : xs.take k = ys.take k) (hk : k < xs.length) (e : xs[k]?.getD z = ys[k]?.getD z) : xs.take (k + 1) = ys.take (k + 1) := by
  rw [List.getElem?_eq_getElem hk, List.getElem?_eq_getElem (by omega)] at e
  rw [← List.take_append_getElem hk, ← List.take_append_getElem (by omega : k < ys.length), he]
  have e' : xs[k] = ys[k]'(by omega) := e
  rw [e']
/-- a text's mark -/
def dgs : Nat → Nat → ByteArray → ByteArray
  | 0, _, out => out
  | f + 1, k, out => if k = 0 then out else dgs f (k / 10) (⟨#[UInt8.ofNat (48 + k % 10)]⟩ ++ out)
def mtx (k : Int) : ByteArray := if k ≤ 0 then ⟨#[109, 48]⟩ else ⟨#[109]⟩ ++ dgs 20 k.toNat .empty
def gS : Gt ByteArray := flStr.gt mtx fun s => s.size
theorem gS_ow {x : ByteArray} (h : x.size ≤ 9223372036854775807) : gS.ow [.string x] x [] := ⟨rfl, h, rfl⟩
theorem gY_owM (k : Int) : gY.ow [.int .u8 (IntKind.u8.wrap k)] (UInt8.ofNat (k % 256).toNat) [] := by
  refine ⟨?_, trivial, rfl⟩
  show [Value.int .u8 _] = [Value.int .u8 _]
  have : IntKind.u8.wrap k = ((UInt8.ofNat (k % 256).toNat).toNat : Int) := by
    unfold IntKind.wrap
    simp only [IntKind.bits, IntKind.signed]
    simp
    omega
  rw [this]
section
variable {α : Type}
def szE (g : Gt α) : List α → Nat
  | [] => 0
  | x :: r => g.sz x + szE g r
theorem szL_eq (g : Gt α) : ∀ xs, szL g xs = xs.length + szE g xs
  | [] => rfl
  | x :: r => by rw [szL, szE, szL_eq g r, List.length_cons]; omega
theorem szE_app (g : Gt α) : ∀ xs ys, szE g (xs ++ ys) = szE g xs + szE g ys
  | [], ys => by simp [szE]
  | x :: r, ys => by simp [szE, szE_app g r]; omega
theorem szE_step (g : Gt α) (xs : List α) (k : Nat) (z : α) (h : k < xs.length) : szE g (xs.take (k + 1)) = szE g (xs.take k) + g.sz (xs[k]?.getD z) := by
  rw [← List.take_append_getElem h, szE_app, List.getElem?_eq_getElem h]; rfl
theorem szE_le (g : Gt α) (xs : List α) (k : Nat) : szE g (xs.take k) ≤ szE g xs := by
  conv => rhs; rw [← List.take_append_drop k xs]
  rw [szE_app]; omega
theorem szE_zero (g : Gt α) (h : ∀ x, g.sz x = 0) : ∀ xs, szE g xs = 0
  | [] => rfl
  | x :: r => by rw [szE, h, szE_zero g h r]
theorem pair_at {β : Type} {g : Gt α} {h : Gt β} {H : Hp} {cs : List Value} {off : Nat} {x : α} {y : β} (h1 : g.rd H ((cs.drop off).take g.size) x) (h2 : h.rd H ((cs.drop (off + g.size)).take h.size) y) :
    (gPair g h).rd H ((cs.drop off).take (g.size + h.size)) (x, y) := by
  refine ⟨_, _, ?_, h1, h2⟩
  rw [List.take_add, List.drop_drop]
end
end Go.Proofs.YtcnclhjhnjpeiaaGreatDoor

namespace Go.SX
section
variable {P : Program} {E : World} {Γ : Ty} {n : Nat}
theorem run_firstS (w : World) (str : ByteArray) : (Builtin.firstCells flByte.size str.data.toList.length (.string str)).run P w = .ok ⟨str.data.toList.flatMap flByte.enc⟩ w := by
  have e1 : str.data.toList.length = str.size := by simp
  rw [e1]
  have e2 : str.extract 0 str.size = str := by simp
  simp only [Builtin.firstCells, e2, Sem.run_pure]
  congr 1
  apply Array.ext'
  simp only [Array.toList_map]
  induction str.data.toList with
  | nil => rfl
  | cons x r ih => simp only [List.map_cons, List.flatMap_cons, ih]; rfl
/-- the run of append of a text onto an owned slice of bytes -/
theorem run_appendS (hΓ : TyOk P Γ) {sT xT e ty : TypeId} {ti : TI} (hsT : P.underlying sT = some (.slice e)) (hxT : P.underlying xT = some .string) (ht : tyOf Γ e = some ti) (hsz : ti.size = flByte.size)
    (hz : ti.zero.cells.toList.length = flByte.size)
    {A B : Hp} {w : World} {base : Option Addr} {m cap : Nat} {xs : List UInt8} {str : ByteArray} (hs : Sat E (A ++ B) w) (ho : Ow flByte e (.slice base m cap) xs A) 
    (hlen : xs.length + str.data.toList.length ≤ 9223372036854775807) (hbd : (xs.length + str.data.toList.length) * ti.bytes ≤ 140737488355328) :
    ∃ base' cap' A' w', (Builtin.append_ #[sT, xT] ty #[.slice base m cap, .string str]).run P w = .ok (.slice base' (xs.length + str.data.toList.length) cap') w' ∧ (Ow flByte e (.slice base' (xs.length + str.data.toList.length) cap') (xs ++ str.data.toList) A' ∧ (xs.length + str.data.toList.length ≤ cap → base' = base ∧ cap' = cap)) ∧ Sat E (A' ++ B) w' := by
  have hrowS := fun w => run_firstS (P := P) w str
  have hsz2 : str.size = str.data.toList.length := by simp
  have hwf0 : ∀ x, flByte.wf x := fun _ => trivial
  generalize hf : flByte = f at *
  generalize hys : str.data.toList = ys at *
  obtain ⟨hw, hl, base0, cap0, e0, h2⟩ := ho
  cases e0
  have hrow := hrowS w
  have hwf : ∀ x ∈ xs ++ ys, f.wf x := fun x _ => hwf0 x
  have hlen' : (xs ++ ys).length ≤ 9223372036854775807 := by rw [List.length_append]; exact hlen
  unfold Builtin.append_
  simp only [List.getElem?_toArray, List.getElem?_cons_zero, List.getElem?_cons_succ, Sem.run_bind, run_underlying hsT, run_underlying hxT, Result.andThen_ok, ty_size hΓ ht, hsz, Sem.run_pure, Builtin.lenOf, Bool.false_eq_true, if_false, Bool.not_false, if_true]
  rw [hsz2]
  by_cases hfit : xs.length + ys.length ≤ cap
  · rw [if_pos hfit]
    simp only [Sem.run_bind, hrow, Result.andThen_ok]
    rcases h2 with ⟨rfl, rfl, rfl⟩ | ⟨b, sp, rfl, rfl, h3, h4⟩
    · have hys : ys = [] := by cases ys with
        | nil => rfl
        | cons _ _ => simp at hfit
      subst hys
      refine ⟨base, 0, [], w, ?_, ⟨Ow.nil e base, fun _ => ⟨rfl, rfl⟩⟩, hs⟩
      cases base with
      | none => rfl
      | some a => rfl
    have hsl : ys.length * f.size ≤ sp.length := by
      exact Nat.le_trans (Nat.mul_le_mul_right _ (by omega)) h4
    have hfl := flat_length f xs
    have hfly := flat_length f ys
    obtain ⟨w', h5, h6⟩ := run_storeCells_wr (P := P) (A := []) (o := xs.length * f.size) (l := ys.flatMap f.enc) hs (by
      show xs.length * f.size + (ys.flatMap f.enc).length ≤ (xs.flatMap f.enc ++ sp).length
      rw [List.length_append]; omega) (by
        have : ∀ l : List UInt8, allOne (l.flatMap f.enc) = true := by
          intro l
          induction l with
          | nil => rfl
          | cons x r ih =>
            rw [List.flatMap_cons]
            have h1 := f.one x
            revert h1
            generalize f.enc x = c
            intro h1
            induction c with
            | nil => exact ih
            | cons v c ihc => cases v <;> simp_all [allOne]
        exact this ys)
    refine ⟨some ⟨b, 0, none⟩, cap, [(b, Obj.cells ⟨setAt (xs.flatMap f.enc ++ sp) (xs.length * f.size) (ys.flatMap f.enc)⟩ e)], w', ?_, ?_, h6⟩
    · simp only [addr_add, Nat.zero_add, h5, Sem.run_bind, Result.andThen_ok, Sem.run_pure]
    refine ⟨?_, fun _ => ⟨rfl, rfl⟩⟩
    refine ⟨hwf, hlen', some ⟨b, 0, none⟩, cap, by rw [List.length_append], .inr ⟨b, sp.drop (ys.length * f.size), rfl, ?_, by rw [List.length_append]; exact hfit, ?_⟩⟩
    · show [(b, Obj.cells ⟨setAt (xs.flatMap f.enc ++ sp) (xs.length * f.size) (ys.flatMap f.enc)⟩ e)] = _
      have key : setAt (xs.flatMap f.enc ++ sp) (xs.length * f.size) (ys.flatMap f.enc) = xs.flatMap f.enc ++ ys.flatMap f.enc ++ sp.drop (ys.length * f.size) := by
        rw [setAt_eq _ _ _ (by rw [List.length_append]; omega), ← hfl, List.take_left, hfl, hfly, List.drop_append, List.drop_eq_nil_of_le (by omega), List.nil_append, hfl]
        rw [show xs.length * f.size + ys.length * f.size - xs.length * f.size = ys.length * f.size by omega]
      rw [key, List.flatMap_append]
    rw [List.length_drop, List.length_append]
    have e9 : (cap - (xs.length + ys.length)) * f.size = (cap - xs.length) * f.size - ys.length * f.size := by rw [← Nat.sub_mul]; congr 1; omega
    omega
  rw [if_neg hfit]
  obtain ⟨i, hi, hib, _, _⟩ := ty_bytes hΓ ht
  have hcap : Builtin.nextslicecap (xs.length + ys.length) cap * ti.bytes ≤ 281474976710656 := by
    have h7 := nextcap_le (xs.length + ys.length) cap (by omega)
    have h8 := Nat.mul_le_mul_right ti.bytes h7
    rw [Nat.mul_assoc] at h8
    omega
  have hold : (Builtin.firstCells f.size xs.length (.slice base xs.length cap)).run P w = .ok ⟨xs.flatMap f.enc⟩ w := by
    have h9 : (rpSl f.rp).rd A [.slice base xs.length cap] xs := Ow.rd ⟨hw, hl, base, cap, rfl, h2⟩
    exact (rd_row (f := f) h9 (P := P) hs.drop).2
  have hdrew : ∀ {H : Hp}, Sat E H w → Sat E H { w with drawn := w.drawn + 1 } := fun h => ⟨h.os, h.out, h.tape, h.mem, h.nodup, Nat.le_trans h.dr (Nat.le_succ _)⟩
  have hold' : (Builtin.firstCells f.size xs.length (.slice base xs.length cap)).run P { w with drawn := w.drawn + 1 } = .ok ⟨xs.flatMap f.enc⟩ { w with drawn := w.drawn + 1 } := by
    have h9 : (rpSl f.rp).rd A [.slice base xs.length cap] xs := Ow.rd ⟨hw, hl, base, cap, rfl, h2⟩
    exact (rd_row (f := f) h9 (P := P) (hdrew hs).drop).2
  have hrow' := hrowS { w with drawn := w.drawn + 1 }
  have hmax : IntKind.i64.max = 9223372036854775807 := rfl
  simp only [Sem.run_bind, typeInfo, run_program, Result.andThen_ok, hi, Sem.run_pure]
  rw [if_neg (by
    rw [hmax]
    rintro ⟨h10, _⟩
    omega)]
  have hif : ¬ (Builtin.nextslicecap (xs.length + ys.length) cap * ti.bytes > 2 ^ 48) := by omega
  simp only [Sem.run_bind, run_program, Result.andThen_ok, hi, Sem.run_pure, hib]
  rw [if_neg hif]
  simp only [Sem.run_bind, run_choose, Question.forced, Bool.false_eq_true, if_false, Result.andThen_ok, run_askRoom, hold', hrow', ty_zero hΓ ht, Sem.run_pure, newRow, run_newObj, run_program, hi]
  have hq : xs.length + ys.length ≤ (Question.appendCap (xs.length + ys.length) cap e).cut (w.tape w.drawn (.appendCap (xs.length + ys.length) cap e)) := by
    simp only [Question.cut]; omega
  generalize (Question.appendCap (xs.length + ys.length) cap e).cut (w.tape w.drawn (.appendCap (xs.length + ys.length) cap e)) = c at hq
  rw [zeroCells_eq]
  refine ⟨some ⟨w.heap.size, 0, none⟩, c, [(w.heap.size, Obj.cells ⟨(xs ++ ys).flatMap f.enc ++ zeros (c - (xs.length + ys.length)) ti.zero.cells.toList⟩ e)], _, rfl, ?_, ?_⟩
  · refine ⟨?_, fun h => absurd h hfit⟩
    refine ⟨hwf, hlen', some ⟨w.heap.size, 0, none⟩, c, by rw [List.length_append], .inr ⟨w.heap.size, _, rfl, rfl, by rw [List.length_append]; exact hq, ?_⟩⟩
    rw [zeros_length, hz, List.length_append]
    exact Nat.le_refl _
  have h11 := (hdrew hs).push (Obj.cells ⟨(xs ++ ys).flatMap f.enc ++ zeros (c - (xs.length + ys.length)) ti.zero.cells.toList⟩ e)
  have h12 : Sat E ((w.heap.size, Obj.cells ⟨(xs ++ ys).flatMap f.enc ++ zeros (c - (xs.length + ys.length)) ti.zero.cells.toList⟩ e) :: B ++ A) (World.alloc { w with drawn := w.drawn + 1 } (Obj.cells ⟨(xs ++ ys).flatMap f.enc ++ zeros (c - (xs.length + ys.length)) ti.zero.cells.toList⟩ e)) := by
    refine h11.perm ?_
    simp only [List.cons_append]
    exact List.Perm.cons _ List.perm_append_comm
  have h13 := h12.drop
  have e1 : ((⟨xs.flatMap f.enc⟩ : Array Value) ++ (⟨ys.flatMap f.enc⟩ : Array Value) ++ (⟨zeros (c - (xs.length + ys.length)) ti.zero.cells.toList⟩ : Array Value)) = ⟨(xs ++ ys).flatMap f.enc ++ zeros (c - (xs.length + ys.length)) ti.zero.cells.toList⟩ := by
    apply Array.ext'
    simp
  rw [e1]
  exact h13
theorem perm0 {α : Type} {x : α} : List.Perm [x] (x :: List.flatten []) := .refl _
theorem perm1 {α : Type} {x : α} {B : List α} : List.Perm (x :: B) (x :: List.flatten [B]) := by simp
def Bz (base : Option Addr) (cap : Nat) : Prop := (base = none ∧ cap = 0) ∨ cap ≠ 0
theorem ow_room {α : Type} {f : Fl α} {T : TypeId} {base : Option Addr} {k cap : Nat} {xs : List α} {A : Hp} (h : Ow f T (.slice base k cap) xs A) (hne : 0 < xs.length) : cap ≠ 0 := by
  obtain ⟨_, _, b0, c0, e, h5⟩ := h
  simp only [Value.slice.injEq] at e
  obtain ⟨_, _, e3⟩ := e
  rcases h5 with ⟨_, h7, _⟩ | ⟨_, _, _, _, h8, _⟩
  · rw [h7] at hne; simp at hne
  omega
/-- append of a text -/
theorem append_str (hΓ : TyOk P Γ) {dst : Option Nat} {s x : Operand} {sT xT T ty : TypeId} {pos : String} {after : Array Edge} {guard : Option (Nat × Bool)} {fr : Fr} {bl : List Blk} {R : List Hp} {K : St → Prop} {ti : TI}
    (i : Nat) {A : Hp} {base : Option Addr} {m cap : Nat} {xs : List UInt8} {str : ByteArray} (hi : nthR R i = some A) (ho : (gSl T gY).ow [.slice base m cap] xs A) (hz0 : Bz base cap)
    (hs1 : getK fr s fun sv => sv = .v (.slice base m cap)) (hx1 : getK fr x fun sv => sv = .v (.string str))
    (hsT : undOf Γ sT = some (.slice T)) (hxT : undOf Γ xT = some .string) (ht : tyOf Γ T = some ti) (hsz : ti.size = flByte.size) (hz : lenIs ti.zero.cells.toList flByte.size = true)
    (hby : Nat.ble ti.bytes 65536 = true) (hlen : xs.length + str.data.toList.length ≤ 1073741824)
    (hk : ∀ base' cap' A', (gSl T gY).ow [.slice base' (xs ++ str.data.toList).length cap'] (xs ++ str.data.toList) A' → Bz base' cap' → putK n fr dst (.v (.slice base' (xs ++ str.data.toList).length cap')) fun fr => K ⟨fr, bl, setR R i A'⟩) :
    VCraw P E n ⟨dst, .call ⟨.builtin .append, #[s, x], #[sT, xT]⟩, ty, pos, after, guard⟩ ⟨fr, bl, R⟩ K := by
  have ho' := fl_ow ho
  have hm : m = xs.length := (by obtain ⟨_, _, _, _, e, _⟩ := ho'; cases e; rfl)
  subst hm
  have hbd : (xs.length + str.data.toList.length) * ti.bytes ≤ 140737488355328 := by
    have h1 := Nat.le_of_ble_eq_true hby
    have h2 := Nat.mul_le_mul hlen h1
    omega
  refine ⟨fun a w hr Q => ?_⟩
  obtain ⟨sv, g1, _, rfl⟩ := getK_sound hr hs1
  obtain ⟨xv, g2, _, rfl⟩ := getK_sound hr hx1
  obtain ⟨pre, post, e1, e2'⟩ := nthR_split hi
  have perm : ∀ C : Hp, (St.hall ⟨[], bl, pre ++ C :: post⟩).Perm (C ++ St.hall ⟨[], bl, pre ++ post⟩) := by
    intro C
    simp only [St.hall, List.flatten_append, List.flatten_cons]
    have := List.perm_append_comm (l₁ := List.map Blk.ent bl ++ pre.flatten) (l₂ := C)
    have := this.append_right post.flatten
    simpa only [List.append_assoc] using this
  subst e1
  have hsat : Sat E (A ++ St.hall ⟨[], bl, pre ++ post⟩) w := hr.sat.perm (perm A)
  obtain ⟨base', cap', A', w', h1, h2, h3⟩ := run_appendS (ty := ty) hΓ (undOf_ok hΓ hsT) (undOf_ok hΓ hxT) ht hsz (lenIs_spec hz) hsat ho' (by omega) hbd
  have hr' : Rel E n ⟨fr, bl, setR (pre ++ A :: post) i A'⟩ a w' := by
    rw [e2']
    exact hr.ids rfl (h3.perm (perm A').symm)
  have hBz : Bz base' cap' := by
    by_cases hf : xs.length + str.data.toList.length ≤ cap
    · obtain ⟨rfl, rfl⟩ := h2.2 hf; exact hz0
    exact .inr (ow_room h2.1 (by rw [List.length_append]; omega))
  have e3 : (xs ++ str.data.toList).length = xs.length + str.data.toList.length := List.length_append
  rw [e3] at hk
  refine wp_value (s := .v _) (v := .slice base' (xs.length + str.data.toList.length) cap') ?_ hr' rfl trivial (hk base' cap' A' (by have := ow_fl (mk := fun k => UInt8.ofNat (k % 256).toNat) (sz := fun _ => 0) h2.1; exact this) hBz)
  simp only [execOp, resolve, invoke, builtin, Sem.run_bind, Sem.run_pure, Result.andThen_ok]
  rw [show (#[s, x] : Array Operand).map a.eval = #[a.eval s, a.eval x] from by simp, g1, g2]
  simp only [SV.den]
  rw [h1]; rfl
/-- unsafe.SliceData -/
theorem sliceData {dst : Option Nat} {x : Operand} {tys : Array TypeId} {ty : TypeId} {pos : String} {after : Array Edge} {guard : Option (Nat × Bool)} {fr : Fr} {bl : List Blk} {R : List Hp} {K : St → Prop}
    {base : Option Addr} {m cap : Nat} (hx1 : getK fr x fun sv => sv = .v (.slice base m cap)) (hz : Bz base cap)
    (hk : putK n fr dst (.v (.pointer base)) fun fr => K ⟨fr, bl, R⟩) : VCraw P E n ⟨dst, .call ⟨.builtin .unsafeSliceData, #[x], tys⟩, ty, pos, after, guard⟩ ⟨fr, bl, R⟩ K := by
  refine ⟨fun a w hr Q => ?_⟩
  obtain ⟨sv, g1, _, rfl⟩ := getK_sound hr hx1
  have key : (Builtin.unsafeSliceData_ tys ty #[.slice base m cap]).run P w = .ok (.pointer base) w := by
    cases base with
    | none => rfl
    | some ad =>
      rcases hz with ⟨h, _⟩ | h
      · cases h
      exact Lib.run_unsafeSliceData_row w tys ty ad m cap h
  refine wp_value (s := .v _) (v := .pointer base) ?_ hr rfl trivial hk
  simp only [execOp, resolve, invoke, builtin, Sem.run_bind, Sem.run_pure, Result.andThen_ok]
  rw [show (#[x] : Array Operand).map a.eval = #[a.eval x] from by simp, g1]
  simp only [SV.den]
  rw [key]; rfl
theorem Sat.dropAt {A B : Hp} {w w' : World} {g : Nat} (h : Sat E (A ++ B) w) (hg : ∀ x, (g, x) ∉ B) (ho : w'.os = w.os) (hu : w'.output = w.output) (ht : w'.tape = w.tape) (hn : ∀ i, i ≠ g → w'.heap[i]? = w.heap[i]?) (hd : w.drawn ≤ w'.drawn) : Sat E B w' := by
  refine ⟨ho.trans h.os, hu.trans h.out, ht.trans h.tape, fun b o hm => ?_, ?_, Nat.le_trans h.dr hd⟩
  · rw [hn b (fun e => hg o (e ▸ hm))]; exact h.mem b o (List.mem_append_right _ hm)
  have := h.nodup; rw [List.map_append, List.nodup_append] at this; exact this.2.1
/-- unsafe.String over what a slice of bytes owns: the bytes are given up -/
theorem unsafeStr (hΓ : TyOk P Γ) {dst : Option Nat} {x l : Operand} {pt it T ty : TypeId} {pos : String} {after : Array Edge} {guard : Option (Nat × Bool)} {fr : Fr} {bl : List Blk} {R : List Hp} {K : St → Prop}
    (i : Nat) {A : Hp} {base : Option Addr} {m cap : Nat} {xs : List UInt8} (hi : nthR R i = some A) (ho : (gSl T gY).ow [.slice base m cap] xs A)
    (hx1 : getK fr x fun sv => sv = .v (.pointer base)) (hl1 : getK fr l fun sv => sv = .v (.int .i64 m))
    (hp : undOf Γ pt = some (.pointer T)) (hc : P.cellsOf T = 1)
    (hk : putK n fr dst (.v (.string ⟨xs.toArray⟩)) fun fr => K ⟨fr, bl, setR R i []⟩) : VCraw P E n ⟨dst, .call ⟨.builtin .unsafeString, #[x, l], #[pt, it]⟩, ty, pos, after, guard⟩ ⟨fr, bl, R⟩ K := by
  have ho' := fl_ow ho
  refine ⟨fun a w hr Q => ?_⟩
  obtain ⟨sv, g1, _, rfl⟩ := getK_sound hr hx1
  obtain ⟨lv, g2, _, rfl⟩ := getK_sound hr hl1
  obtain ⟨pre, post, e1, e2'⟩ := nthR_split hi
  have perm : ∀ C : Hp, (St.hall ⟨[], bl, pre ++ C :: post⟩).Perm (C ++ St.hall ⟨[], bl, pre ++ post⟩) := by
    intro C
    simp only [St.hall, List.flatten_append, List.flatten_cons]
    have := List.perm_append_comm (l₁ := List.map Blk.ent bl ++ pre.flatten) (l₂ := C)
    have := this.append_right post.flatten
    simpa only [List.append_assoc] using this
  subst e1
  have hsat : Sat E (A ++ St.hall ⟨[], bl, pre ++ post⟩) w := hr.sat.perm (perm A)
  have key : ∃ w', (Builtin.unsafeString_ #[pt, it] ty #[.pointer base, .int .i64 m]).run P w = .ok (.string ⟨xs.toArray⟩) w' ∧ Sat E (St.hall ⟨[], bl, pre ++ post⟩) w' := by
    obtain ⟨_, hlen, base0, cap0, e0, h2⟩ := ho'
    cases e0
    cases xs with
    | nil =>
      refine ⟨w, Lib.run_unsafeString_none w pt it ty base, ?_⟩
      exact (hsat.perm List.perm_append_comm).drop
    | cons x0 r =>
      rcases h2 with ⟨_, h7, _⟩ | ⟨b, sp, rfl, rfl, h3, h4⟩
      · cases h7
      have hmem : (b, Obj.cells ⟨(x0 :: r).flatMap flByte.enc ++ sp⟩ T) ∈ ([(b, Obj.cells ⟨(x0 :: r).flatMap flByte.enc ++ sp⟩ T)] : Hp) ++ St.hall ⟨[], bl, pre ++ post⟩ := List.mem_append_left _ (List.mem_singleton.2 rfl)
      have hheap := hsat.mem _ _ hmem
      have hfl := flat_length flByte (x0 :: r)
      have e5 : flByte.size = 1 := rfl
      rw [e5, Nat.mul_one] at hfl
      refine ⟨w.freeze ⟨b, 0, none⟩ (x0 :: r).length, ?_, ?_⟩
      · refine Lib.run_unsafeString_row w pt it ty T (undOf_ok hΓ hp) hc b ((x0 :: r).flatMap flByte.enc ++ sp).length ?_ (x0 :: r) (by simp) ?_ hlen ?_
        · simp [World.shape?, hheap]
        · rw [List.length_append, hfl]; omega
        intro j x hx
        rw [addr_add, Nat.zero_add, hsat.cell hmem]
        have hj : j < (x0 :: r).length := by
          rcases Nat.lt_or_ge j (x0 :: r).length with h | h
          · exact h
          rw [List.getElem?_eq_none h] at hx; cases hx
        rw [List.getElem?_eq_getElem hj] at hx
        cases hx
        have := flat_get flByte (x0 :: r) j 0 hj (by show 0 < 1; omega)
        rw [e5, Nat.mul_one, Nat.add_zero] at this
        simp only [List.getElem?_toArray]
        rw [List.getElem?_append_left (by rw [hfl]; exact hj), this]
        rfl
      have hnd := hsat.nodup
      refine Sat.dropAt (g := b) hsat ?_ ?_ ?_ ?_ ?_ (by unfold World.freeze; split <;> exact Nat.le_refl _)
      · intro x hx
        rw [List.map_append, List.nodup_append] at hnd
        exact hnd.2.2 b (by simp) b (List.mem_map.2 ⟨_, hx, rfl⟩) rfl
      · unfold World.freeze; split <;> rfl
      · unfold World.freeze; split <;> rfl
      · unfold World.freeze; split <;> rfl
      intro i hne
      unfold World.freeze
      split
      · rfl
      simp only [Array.getElem?_modify]
      rw [if_neg (fun e => hne e.symm)]
  obtain ⟨w', h1, h2⟩ := key
  have hr' : Rel E n ⟨fr, bl, setR (pre ++ A :: post) i []⟩ a w' := by
    rw [e2']
    exact hr.ids rfl (h2.perm (perm []).symm)
  refine wp_value (s := .v _) (v := .string ⟨xs.toArray⟩) ?_ hr' rfl trivial hk
  simp only [execOp, resolve, invoke, builtin, Sem.run_bind, Sem.run_pure, Result.andThen_ok]
  rw [show (#[x, l] : Array Operand).map a.eval = #[a.eval x, a.eval l] from by simp, g1, g2]
  simp only [SV.den]
  rw [h1]; rfl
theorem chooseL {β : Type} {P : Nat → β → Prop} : ∀ (n : Nat), (∀ i, i < n → ∃ r, P i r) → ∃ rs : List β, rs.length = n ∧ ∀ i (h : i < rs.length), P i rs[i]
  | 0, _ => ⟨[], rfl, fun i h => by simp at h⟩
  | n + 1, h => by
    obtain ⟨rs, h1, h2⟩ := chooseL n (fun i hi => h i (by omega))
    obtain ⟨r, hr⟩ := h n (by omega)
    refine ⟨rs ++ [r], by simp [h1], fun i hi => ?_⟩
    by_cases hlt : i < rs.length
    · rw [List.getElem_append_left hlt]; exact h2 i hlt
    have : i = n := by simp at hi; omega
    subst this
    rw [List.getElem_append_right (by omega)]
    simp [h1, hr]
/-- elements that own nothing -/
def Plain {α : Type} (g : Gt α) : Prop := ∀ {H : Hp} {l : List Value} {x : α}, g.rd H l x → g.ow l x []
theorem fl_plain {α : Type} {f : Fl α} {mk : Int → α} {sz : α → Nat} : Plain (f.gt mk sz) := fun h => ⟨h.1, h.2, rfl⟩
theorem OwL.of {α : Type} {g : Gt α} : ∀ (ls : List (RawC g.size)) (xs : List α), ls.length = xs.length → (∀ i (h1 : i < ls.length) (h2 : i < xs.length), g.ow (ls[i]).1 xs[i] []) → OwL g ls xs (List.replicate xs.length [])
  | [], [], _, _ => .nil
  | l :: ls, x :: xs, h, hp => by
    refine .cons (hp 0 (by simp) (by simp)) (OwL.of ls xs (by simpa using h) fun i h1 h2 => ?_)
    exact hp (i + 1) (by simpa using h1) (by simpa using h2)
  | [], _ :: _, h, _ => by simp at h
  | _ :: _, [], h, _ => by simp at h
theorem rd_raws {α : Type} {g : Gt α} (hpl : Plain g) {H : Hp} {xb : Option Addr} {mx xc : Nat} {ys : List α} (hx : (rpSl g.toRp).rd H [.slice xb mx xc] ys) :
    ∃ rs : List (RawC g.size), (rpSl (flRaw g.size g.pos).rp).rd H [.slice xb mx xc] rs ∧ OwL g rs ys (List.replicate ys.length []) ∧ rs.length = ys.length := by
  obtain ⟨base, cap, e, h1, h2⟩ := hx
  cases e
  have h3 : ∀ i, i < ys.length → ∃ r : RawC g.size, (∃ b o, xb = some ⟨b, o, none⟩ ∧ RdCells H b (o + i * g.size) g.size r.1) ∧ ∃ h : i < ys.length, g.ow r.1 ys[i] [] := by
    intro i hi
    obtain ⟨b, o, l', h4, h5, h6⟩ := h2 i hi
    exact ⟨⟨l', raw_of h6⟩, ⟨b, o, h4, h5⟩, hi, hpl h6⟩
  obtain ⟨rs, h7, h8⟩ := chooseL ys.length h3
  refine ⟨rs, ⟨xb, xc, by rw [h7], ⟨by rw [h7]; exact h1.1, by rw [h7]; exact h1.2⟩, fun i hi => ?_⟩, OwL.of rs ys h7 fun i hi1 hi2 => ?_, h7⟩
  · obtain ⟨⟨b, o, h9, h10⟩, _⟩ := h8 i hi
    exact ⟨b, o, (rs[i]).1, h9, h10, rfl, trivial⟩
  obtain ⟨_, _, h11⟩ := h8 i hi1
  exact h11
/-- plain elements that lie elsewhere are appended -/
theorem append_all (hΓ : TyOk P Γ) {α : Type} {g : Gt α} (hpl : Plain g) {dst : Option Nat} {s x : Operand} {sT xT e2 T ty : TypeId} {pos : String} {after : Array Edge} {guard : Option (Nat × Bool)} {fr : Fr} {bl : List Blk} {R : List Hp} {K : St → Prop} {ti : TI}
    (A : Hp) (Rr : List Hp) {base xb : Option Addr} {m cap mx xc : Nat} {xs ys : List α} (hR : RLe R (A :: Rr)) (ho : (gSl T g).ow [.slice base m cap] xs A) (hx : (rpSl g.toRp).rd (St.hall ⟨[], bl, A :: Rr⟩) [.slice xb mx xc] ys)
    (hs1 : getK fr s fun sv => sv = .v (.slice base m cap)) (hx1 : getK fr x fun sv => sv = .v (.slice xb mx xc))
    (hsT : undOf Γ sT = some (.slice T)) (hxT : undOf Γ xT = some (.slice e2)) (ht : tyOf Γ T = some ti) (hsz : ti.size = g.size) (hz : lenIs ti.zero.cells.toList g.size = true)
    (hby : Nat.ble ti.bytes 65536 = true) (hlen : xs.length + ys.length ≤ 1073741824)
    (hk : ∀ base' cap' A', (gSl T g).ow [.slice base' (xs ++ ys).length cap'] (xs ++ ys) A' → putK n fr dst (.v (.slice base' (xs ++ ys).length cap')) fun fr => K ⟨fr, bl, A' :: Rr⟩) :
    VCraw P E n ⟨dst, .call ⟨.builtin .append, #[s, x], #[sT, xT]⟩, ty, pos, after, guard⟩ ⟨fr, bl, R⟩ K := by
  have e0 : (xs ++ ys).length = xs.length + ys.length := List.length_append
  simp only [e0] at hk
  obtain ⟨v, ls, A0, As, e, ho, hp, hl⟩ := ho
  cases e
  obtain ⟨e1, e2'⟩ := hl.len
  have hm : m = ls.length := (by obtain ⟨_, _, _, _, e, _⟩ := ho; cases e; rfl)
  subst hm
  obtain ⟨rs, hrs, hol, hrl⟩ := rd_raws hpl hx
  obtain ⟨L, hL⟩ := hR
  have hperm : R.flatten.Perm (A0 ++ (As.flatten ++ (Rr.flatten ++ L))) := by
    refine hL.trans ?_
    simp only [List.flatten_cons]
    have := hp.append_right (Rr.flatten ++ L)
    simpa only [List.append_assoc] using this
  refine VCraw.conv (R2 := [A0, As.flatten ++ (Rr.flatten ++ L)]) ⟨[], by simpa using hperm⟩ ?_
  have hsub : ∀ p ∈ St.hall ⟨[], bl, A :: Rr⟩, p ∈ St.hall ⟨[], bl, [A0, As.flatten ++ (Rr.flatten ++ L)]⟩ := by
    intro p hp'
    simp only [St.hall, List.flatten_cons, List.flatten_nil, List.append_nil] at hp' ⊢
    rcases List.mem_append.1 hp' with h | h
    · exact List.mem_append_left _ h
    refine List.mem_append_right _ ?_
    rcases List.mem_append.1 h with h | h
    · have := hp.mem_iff.1 h
      rcases List.mem_append.1 this with h2 | h2
      · exact List.mem_append_left _ h2
      exact List.mem_append_right _ (List.mem_append_left _ h2)
    exact List.mem_append_right _ (List.mem_append_right _ (List.mem_append_left _ h))
  refine append_ow (f := flRaw g.size g.pos) hΓ 0 rfl ho ((rpSl (flRaw g.size g.pos).rp).mono hsub hrs) (fun _ _ => trivial) hs1 hx1 hsT hxT ht hsz hz hby (by rw [e1, hrl]; exact hlen) ?_
  intro base' cap' A' ho' _
  have h3 : (gSl T g).ow [.slice base' (xs.length + ys.length) cap'] (xs ++ ys) (A' ++ (As ++ List.replicate ys.length []).flatten) := by
    refine ⟨_, ls ++ rs, A', As ++ List.replicate ys.length [], rfl, ?_, .refl _, hl.append hol⟩
    rw [← e1, ← hrl]; exact ho'
  have h4 := hk base' cap' _ h3
  rw [e1, hrl]
  refine putK_mono h4 fun fr' hK => ⟨_, ?_, hK⟩
  refine ⟨L, ?_⟩
  simp only [setR, List.flatten_cons, List.flatten_nil, List.append_nil, List.flatten_append]
  have : (List.replicate ys.length ([] : Hp)).flatten = [] := by simp
  rw [this]
  simp only [List.append_assoc, List.append_nil]
  exact .refl _
theorem nthR_mem : ∀ {R : List Hp} {i : Nat} {A : Hp}, nthR R i = some A → ∀ p ∈ A, p ∈ R.flatten := by
  intro R i A h p hp
  obtain ⟨pre, post, rfl, -⟩ := nthR_split h
  simp only [List.flatten_append, List.flatten_cons, List.mem_append]
  exact .inr (.inl hp)
/-- the same, the elements read in heaplet i -/
theorem append_allN (hΓ : TyOk P Γ) {α : Type} {g : Gt α} (hpl : Plain g) {dst : Option Nat} {s x : Operand} {sT xT e2 T ty : TypeId} {pos : String} {after : Array Edge} {guard : Option (Nat × Bool)} {fr : Fr} {bl : List Blk} {R : List Hp} {K : St → Prop} {ti : TI}
    (A : Hp) (Rr : List Hp) (i : Nat) {H : Hp} {base xb : Option Addr} {m cap mx xc : Nat} {xs ys : List α} (hR : RLe R (A :: Rr)) (ho : (gSl T g).ow [.slice base m cap] xs A) (hi : nthR Rr i = some H) (hx : (gSl T g).rd H [.slice xb mx xc] ys)
    (hs1 : getK fr s fun sv => sv = .v (.slice base m cap)) (hx1 : getK fr x fun sv => sv = .v (.slice xb mx xc))
    (hsT : undOf Γ sT = some (.slice T)) (hxT : undOf Γ xT = some (.slice e2)) (ht : tyOf Γ T = some ti) (hsz : ti.size = g.size) (hz : lenIs ti.zero.cells.toList g.size = true)
    (hby : Nat.ble ti.bytes 65536 = true) (hlen : xs.length + ys.length ≤ 1073741824)
    (hk : ∀ base' cap' A', (gSl T g).ow [.slice base' (xs ++ ys).length cap'] (xs ++ ys) A' → putK n fr dst (.v (.slice base' (xs ++ ys).length cap')) fun fr => K ⟨fr, bl, A' :: Rr⟩) :
    VCraw P E n ⟨dst, .call ⟨.builtin .append, #[s, x], #[sT, xT]⟩, ty, pos, after, guard⟩ ⟨fr, bl, R⟩ K :=
  append_all hΓ hpl A Rr hR ho ((gSl T g).mono (fun p hp => by
    simp only [St.hall, List.flatten_cons, List.mem_append]
    have := nthR_mem hi p hp
    simp only [this, or_true]) hx) hs1 hx1 hsT hxT ht hsz hz hby hlen hk
end
end Go.SX

namespace Go.Proofs.YtcnclhjhnjpeiaaGreatDoor
open Go.SX Go.Proofs Go.RowKit
set_option maxHeartbeats 4000000
theorem sizeBuilder : (Tryz.prog.info? 194).map (·.size) = some 2 := by kernel_rfl
theorem liesBuilder : liesAt Tryz.prog Tryz.prog.depth 194 (2 / Tryz.prog.cellsOf 194) 0 194 1 = true := by kernel_rfl
set_option maxRecDepth 100000 in
theorem copyCheck_used (b : Nat) (w : World) (h0 : w.cell? ⟨b, 0, none⟩ = some (.pointer (some ⟨b, 0, none⟩))) :
    Calls Tryz.prog 169 #[.pointer (some ⟨b, 0, none⟩)] w fun e w' => e = .returned (.tuple #[]) ∧ w' = w := by
  obtain ⟨j, hj, _⟩ := Option.map_eq_some_iff.1 sizeBuilder
  have mixed := mixed
  have t194 := Tryz.underlying194; have a194 := Tryz.isAgg194; have z194 := Tryz.sizeOf194; have v194 := Tryz.zeroValue194; have u194 := run_underlying Tryz.underlying194
  have t192 := Tryz.underlying192; have a192 := Tryz.isAgg192; have z192 := Tryz.sizeOf192; have v192 := Tryz.zeroValue192; have u192 := run_underlying Tryz.underlying192
  have t9 := Tryz.underlying9; have a9 := Tryz.isAgg9; have z9 := Tryz.sizeOf9; have v9 := Tryz.zeroValue9; have u9 := run_underlying Tryz.underlying9
  have t4 := Tryz.underlying4; have a4 := Tryz.isAgg4; have z4 := Tryz.sizeOf4; have v4 := Tryz.zeroValue4; have u4 := run_underlying Tryz.underlying4
  have t274 := Tryz.underlying274; have a274 := Tryz.isAgg274; have z274 := Tryz.sizeOf274; have v274 := Tryz.zeroValue274; have u274 := run_underlying Tryz.underlying274
  go_enter Tryz.func169, Tryz.ntmps169
  go_wp2
  rw [Lib.run_neq_ptr_same w _ Tryz.underlying192 hj]
  go_wp2
  go_end0
  exact ⟨rfl, rfl⟩
set_option maxRecDepth 100000 in
theorem copyCheck_fresh (b : Nat) (w : World) (h0 : w.cell? ⟨b, 0, none⟩ = some (.pointer none)) (hsh : w.shape? b = some (194, 2)) (hfz : w.frozen? ⟨b, 0, none⟩ = false) :
    Calls Tryz.prog 169 #[.pointer (some ⟨b, 0, none⟩)] w fun e w' => e = .returned (.tuple #[]) ∧ w' = w.setCell ⟨b, 0, none⟩ (.pointer (some ⟨b, 0, none⟩)) := by
  obtain ⟨j, hj, hjs⟩ := Option.map_eq_some_iff.1 sizeBuilder
  have mixed := mixed
  have t194 := Tryz.underlying194; have a194 := Tryz.isAgg194; have z194 := Tryz.sizeOf194; have v194 := Tryz.zeroValue194; have u194 := run_underlying Tryz.underlying194
  have t192 := Tryz.underlying192; have a192 := Tryz.isAgg192; have z192 := Tryz.sizeOf192; have v192 := Tryz.zeroValue192; have u192 := run_underlying Tryz.underlying192
  have t9 := Tryz.underlying9; have a9 := Tryz.isAgg9; have z9 := Tryz.sizeOf9; have v9 := Tryz.zeroValue9; have u9 := run_underlying Tryz.underlying9
  have t4 := Tryz.underlying4; have a4 := Tryz.isAgg4; have z4 := Tryz.sizeOf4; have v4 := Tryz.zeroValue4; have u4 := run_underlying Tryz.underlying4
  have t274 := Tryz.underlying274; have a274 := Tryz.isAgg274; have z274 := Tryz.sizeOf274; have v274 := Tryz.zeroValue274; have u274 := run_underlying Tryz.underlying274
  go_enter Tryz.func169, Tryz.ntmps169
  go_wp2
  rw [Lib.run_to_unsafe w ⟨b, 0, none⟩ Tryz.underlying192 Tryz.underlying274 hj (by rw [hjs]; decide) hsh (Nat.zero_lt_succ 1)]
  simp only [Result.andThen]
  rw [Oper.upon_value]
  go_wp2
  rw [run_callFunc_extern Tryz.func191 (by kernel_rfl) (by kernel_rfl) (by kernel_rfl) (e := Extern.AbiNoEscape.same) (by kernel_rfl)]
  rw [Lib.run_noEscape]
  simp only [Result.andThen]
  rw [Oper.upon_value]
  go_wp2
  rw [Lib.run_from_unsafe w ⟨b, 0, none⟩ Tryz.underlying274 Tryz.underlying192 hj hsh liesBuilder]
  simp only [Result.andThen]
  rw [Oper.upon_value]
  go_wp2
  go_end0
  exact ⟨rfl, rfl⟩
theorem copyCheck_ct (b : Nat) (ad v : Value) (ha : ad = .pointer none ∨ ad = .pointer (some ⟨b, 0, none⟩)) :
    CtR Tryz.prog 169 [.pointer (some ⟨b, 0, none⟩)] [(b, Obj.cells ⟨[ad, v]⟩ 194)] (fun _ => True) (fun r A => r = .tuple #[] ∧ A = [(b, Obj.cells ⟨[.pointer (some ⟨b, 0, none⟩), v]⟩ 194)]) := by
  refine ⟨⟨_, Tryz.func169, by decide +kernel, rfl⟩, fun E H w hs _ => ?_⟩
  have hmem : (b, Obj.cells ⟨[ad, v]⟩ 194) ∈ ([(b, Obj.cells ⟨[ad, v]⟩ 194)] : Hp) ++ H := List.mem_append_left _ (List.mem_singleton.2 rfl)
  have hc := hs.cell hmem 0
  have hheap := hs.mem _ _ hmem
  rcases ha with rfl | rfl
  · refine (copyCheck_fresh b w (by rw [hc]; rfl) (by simp [World.shape?, hheap]) (by simp [World.frozen?, hheap])).mono ?_
    rintro e w' ⟨rfl, rfl⟩
    refine ⟨_, _, rfl, ⟨rfl, rfl⟩, ?_⟩
    refine Sat.upd (A := []) hs rfl rfl rfl ?_ ?_
    · show (w.heap.modify b _)[b]? = _
      rw [Array.getElem?_modify, if_pos rfl, hheap]; rfl
    intro i hne
    simp only [World.setCell, Array.getElem?_modify]
    rw [if_neg (fun e => hne e.symm)]
  refine (copyCheck_used b w (by rw [hc]; rfl)).mono ?_
  rintro e w' ⟨rfl, rfl⟩
  exact ⟨_, _, rfl, ⟨rfl, rfl⟩, hs⟩
--@ct (*strings.Builder).copyCheck blk0 copyCheck_ct _ _ _ !a | | rintro _ A# ⟨rfl, rfl⟩ ;; refine ⟨_, _, [], rfl, perm0, ?_⟩
--@ct (*strings.Builder).WriteString blk1 WriteString_ct _ _ _ _ _ _ _ _ !a !o !z ?_ | | rintro _ A# ⟨rfl, bb#, bc#, B#, rfl, o#, z#⟩ ;; refine ⟨_, _, [B#], rfl, perm1, ?_⟩
theorem WriteString_ct (b : Nat) (ad : Value) (base : Option Addr) (m cap : Nat) (xs : List UInt8) (A : Hp) (s : ByteArray) (ha : ad = .pointer none ∨ ad = .pointer (some ⟨b, 0, none⟩)) (ho : (gSl 5 gY).ow [.slice base m cap] xs A) (hz : Bz base cap) (hl : xs.length + s.size ≤ 1073741824) :
    CtR Tryz.prog 135 [.pointer (some ⟨b, 0, none⟩), .string s] ((b, Obj.cells ⟨[ad, .slice base m cap]⟩ 194) :: A) (fun _ => True) (fun r A' => r = .tuple #[.int .i64 s.size, .nilIface] ∧
      ∃ base' cap' B, A' = (b, Obj.cells ⟨[.pointer (some ⟨b, 0, none⟩), .slice base' (xs ++ s.data.toList).length cap']⟩ 194) :: B ∧ (gSl 5 gY).ow [.slice base' (xs ++ s.data.toList).length cap'] (xs ++ s.data.toList) B ∧ Bz base' cap') := by
  obtain ⟨rfl, hcl, hll⟩ := sl_len (Gt.owrd _ ho)
  refine CtR.introB G_ok [.p 0 0, .v (.string s)] [⟨b, [ad, .slice base xs.length cap], 194⟩] [A] Tryz.func135 rfl rfl rfl rfl (by simp [SV.ok]) (by simp [Blk.ent]) fun E H hp => ?_
  have ha' := ha
  refine callR_blk 0 ([]) [A, H] rfl ?_ (copyCheck_ct _ _ _ (by first | exact .inl rfl | exact .inr rfl | assumption)) trivial ?_
  · exact .refl _
  rintro _ A0 ⟨rfl, rfl⟩
  refine ⟨_, _, [], rfl, perm0, ?_⟩
  refine append_str G_ok 0 rfl ho hz rfl rfl rfl rfl rfl rfl rfl rfl ?_ fun b1 c1 A1 o1 z1 => ?_
  · trivial
  exact ⟨_, ⟨rfl, _, _, _, rfl, ‹_›, ‹_›⟩, .le fun a => by simp [List.count_cons, Blk.ent, setR, idOf]⟩
--@ct (*strings.Builder).String blk1 String_ct _ _ _ _ _ _ _ !o !z | | rintro _ A# ⟨rfl, rfl⟩ ;; refine ⟨_, _, [], rfl, perm0, ?_⟩
theorem String_ct (b : Nat) (ad : Value) (base : Option Addr) (m cap : Nat) (xs : List UInt8) (A : Hp) (ho : (gSl 5 gY).ow [.slice base m cap] xs A) (hz : Bz base cap) :
    CtR Tryz.prog 136 [.pointer (some ⟨b, 0, none⟩)] ((b, Obj.cells ⟨[ad, .slice base m cap]⟩ 194) :: A) (fun _ => True) (fun r A' => r = .string ⟨xs.toArray⟩ ∧ A' = [(b, Obj.cells ⟨[ad, .slice base m cap]⟩ 194)]) := by
  obtain ⟨rfl, hcl, hll⟩ := sl_len (Gt.owrd _ ho)
  refine CtR.introB G_ok [.p 0 0] [⟨b, [ad, .slice base xs.length cap], 194⟩] [A] Tryz.func136 rfl rfl rfl rfl (by simp [SV.ok]) (by simp [Blk.ent]) fun E H hp => ?_
  refine draw G_ok mixed (some 10) (.q 0 (.q 1 (.q 2 (.q 3 (.q 5 (.q 6 (.q 7 (.q 8 (.q 9 (.f 4 (.tl 10 (.f 11 (.nil))))))))))))) (by decide +kernel) ?_
  refine sliceData rfl hz ?_
  refine VC.intro ?_ ?_
  · exact fun _ h => h
  refine unsafeStr G_ok 0 rfl ho rfl rfl rfl (by kernel_rfl) ?_
  exact ⟨_, ⟨rfl, rfl⟩, .le fun a => by simp [List.count_cons, Blk.ent, setR]⟩
end Go.Proofs.YtcnclhjhnjpeiaaGreatDoor

--@dev import Derived.Test.YtcnclhjhnjpeiaaGreatDoorSxWalk
namespace Go.Proofs.YtcnclhjhnjpeiaaGreatDoor
open Go.SX Go.Proofs
set_option maxHeartbeats 4000000
set_option linter.unusedSimpArgs false
set_option linter.unusedVariables false
structure Item where
  row : List Int
  times : Int
deriving DecidableEq, Inhabited
def gItem : Gt Item := gIso (SX.gPair (gSl 3 gI) gI) (fun x => (x.row, x.times)) (fun p => ⟨p.1, p.2⟩)
theorem gItem_rd {H : Hp} {l : List Value} {x : Item} : gItem.rd H l x ↔ ∃ (b0 : Option Addr) (c0 : Nat), l = .slice b0 x.row.length c0 :: .int .i64 x.times :: [] ∧ (gSl 3 gI).rd H [.slice b0 x.row.length c0] x.row ∧ okI x.times := by
  constructor
  · rintro ⟨m0, q0, rfl, h0, h1⟩
    obtain ⟨b0, c0, rfl, h0⟩ := sl_rd h0
    obtain ⟨rfl, w1⟩ := h1
    exact ⟨b0, c0, rfl, h0, w1⟩
  rintro ⟨b0, c0, rfl, h0, w1⟩
  exact ⟨[.slice b0 x.row.length c0], [.int .i64 x.times], rfl, h0, ⟨rfl, w1⟩⟩
open Classical in
theorem gItem_ow {A : Hp} {l : List Value} {x : Item} : gItem.ow l x A ↔ ∃ (b0 : Option Addr) (c0 : Nat) (A0 : Hp), l = .slice b0 x.row.length c0 :: .int .i64 x.times :: [] ∧ A.Perm A0 ∧ (gSl 3 gI).ow [.slice b0 x.row.length c0] x.row A0 ∧ okI x.times := by
  constructor
  · rintro ⟨m0, q0, D0, E0, rfl, p0, h0, h1⟩
    obtain ⟨b0, c0, rfl, h0⟩ := sl_ow h0
    obtain ⟨rfl, w1, e1⟩ := h1
    subst e1
    exact ⟨b0, c0, D0, rfl, (perm_cnt fun a => by have e0 := p0.count_eq a; simp only [List.count_append, List.count_nil] at *; omega), h0, w1⟩
  rintro ⟨b0, c0, A0, rfl, hp, h0, w1⟩
  exact ⟨[.slice b0 x.row.length c0], [.int .i64 x.times], A0, [], rfl, (perm_cnt fun a => by have e := hp.count_eq a; simp only [List.count_append, List.count_nil] at *; omega), h0, ⟨rfl, w1, rfl⟩⟩
theorem opens_Item : Opens Tryz.prog gItem.toRp 221 := by
  intro H' enc w H sp hd fuel cs d ps hcov ht
  obtain ⟨h1, h2⟩ := trod_fields ty221_ok.1 ht
  obtain ⟨_, _, t0⟩ := h2 0 0 28 rfl
  obtain ⟨x0, r0⟩ := (opens_sl ty28_ok.1 (by kernel_rfl) (by decide) (opens_fi ty3_ok.1)) _ _ H _ _ _ _ _ _ hcov t0
  rw [show Tryz.prog.cellsOf 28 = 1 by kernel_rfl] at r0
  obtain ⟨_, _, t1⟩ := h2 1 1 3 rfl
  obtain ⟨x1, r1⟩ := (opens_fi ty3_ok.1) _ _ H _ _ _ _ _ _ hcov t1
  rw [show Tryz.prog.cellsOf 3 = 1 by kernel_rfl] at r1
  rw [show Tryz.prog.cellsOf 221 = 2 by kernel_rfl] at h1
  have key : gItem.rd H ((cs.drop 0).take 2) ⟨x0, x1⟩ := (pair_at (g := (gSl 3 gI)) (h := gI) (off := 0) r0 r1)
  rw [List.drop_zero, List.take_of_length_le (by omega)] at key
  exact ⟨_, key⟩
def zItem : Item := ⟨[], 0⟩
theorem zItem_ow : gItem.ow [.slice none 0 0, .int .i64 0] zItem [] := gItem_ow.2 ⟨none, 0, [], rfl, by simp, sl_nil _ _ _, by first | (unfold okI; decide) | decide⟩
theorem gItem_row : Fld gItem (gSl 3 gI) (fun x => x.row) (fun x y => { x with row := y }) 0 := (Fld.fst _ _).iso (fun _ => rfl) (fun _ _ => rfl)
theorem gItem_times : Fld gItem gI (fun x => x.times) (fun x y => { x with times := y }) 1 := (Fld.snd _ _).iso (fun _ => rfl) (fun _ _ => rfl)
theorem gItem_sz (x : Item) : gItem.sz x = szL gI x.row + (0) := rfl
theorem gItem_cnt (x : Item) : gItem.cnt x = cntL gI x.row + (1) := rfl
theorem gItem_mark (k : Int) (x : Item) : gItem.mark k x = ⟨mkL gI (k) x.row, k + cntL gI x.row⟩ := by
  have h : gItem.mark k x = ⟨mkL gI (k) x.row, (k + ((cntL gI x.row : Nat) : Int))⟩ := rfl
  rw [h] <;> simp
theorem Item.eq_iff {x y : Item} : x = y ↔ x.row = y.row ∧ x.times = y.times := by cases x; cases y; simp
--@gt impl.Item | gItem | default | obtain ⟨b0x#, c0x#, rfl, h0x#, w1x#⟩ := gItem_rd.1 hl# | 0 1 sl gItem_row ; 1 1 pr gItem_times | 2 | 
structure Bag where
  items : List Item
deriving DecidableEq, Inhabited
def gBag : Gt Bag := gIso (gSl 134 gItem) (fun x => x.items) (fun p => ⟨p⟩)
theorem gBag_rd {H : Hp} {l : List Value} {x : Bag} : gBag.rd H l x ↔ ∃ (b0 : Option Addr) (c0 : Nat), l = .slice b0 x.items.length c0 :: [] ∧ (gSl 134 gItem).rd H [.slice b0 x.items.length c0] x.items := by
  constructor
  · rintro h0
    obtain ⟨b0, c0, rfl, h0⟩ := sl_rd h0
    exact ⟨b0, c0, rfl, h0⟩
  rintro ⟨b0, c0, rfl, h0⟩
  exact h0
open Classical in
theorem gBag_ow {A : Hp} {l : List Value} {x : Bag} : gBag.ow l x A ↔ ∃ (b0 : Option Addr) (c0 : Nat) (A0 : Hp), l = .slice b0 x.items.length c0 :: [] ∧ A.Perm A0 ∧ (gSl 134 gItem).ow [.slice b0 x.items.length c0] x.items A0 := by
  constructor
  · rintro h0
    obtain ⟨b0, c0, rfl, h0⟩ := sl_ow h0
    exact ⟨b0, c0, A, rfl, .refl _, h0⟩
  rintro ⟨b0, c0, A0, rfl, hp, h0⟩
  exact gBag.owp (l := _) (x := x) h0 hp
theorem opens_Bag : Opens Tryz.prog gBag.toRp 63 := by
  intro H' enc w H sp hd fuel cs d ps hcov ht
  obtain ⟨h1, h2⟩ := trod_fields ty63_ok.1 ht
  obtain ⟨_, _, t0⟩ := h2 0 0 61 rfl
  obtain ⟨x0, r0⟩ := (opens_sl ty61_ok.1 (by kernel_rfl) (by decide) opens_Item) _ _ H _ _ _ _ _ _ hcov t0
  rw [show Tryz.prog.cellsOf 61 = 1 by kernel_rfl] at r0
  rw [show Tryz.prog.cellsOf 63 = 1 by kernel_rfl] at h1
  have key : gBag.rd H ((cs.drop 0).take 1) ⟨x0⟩ := r0
  rw [List.drop_zero, List.take_of_length_le (by omega)] at key
  exact ⟨_, key⟩
def zBag : Bag := ⟨[]⟩
theorem zBag_ow : gBag.ow [.slice none 0 0] zBag [] := gBag_ow.2 ⟨none, 0, [], rfl, by simp, sl_nil _ _ _⟩
theorem gBag_sz (x : Bag) : gBag.sz x = szL gItem x.items := rfl
theorem gBag_cnt (x : Bag) : gBag.cnt x = cntL gItem x.items := rfl
theorem gBag_cntV (x : Bag) : gBag.cntV x = cntL gItem x.items := rfl
theorem gBag_mark (k : Int) (x : Bag) : gBag.mark k x = ⟨mkL gItem (k) x.items⟩ := by
  have h : gBag.mark k x = ⟨mkL gItem (k) x.items⟩ := rfl
  rw [h] <;> simp
theorem gBag_markV (k : Int) (x : Bag) : gBag.markV k x = ⟨mkL gItem (k) x.items⟩ := by
  have h : gBag.markV k x = ⟨mkL gItem (k) x.items⟩ := rfl
  rw [h] <;> simp
theorem Bag.eq_iff {x y : Bag} : x = y ↔ x.items = y.items := by cases x; cases y; simp
--@gt impl.Bag | gBag | default | obtain ⟨b0x#, c0x#, rfl, h0x#⟩ := gBag_rd.1 hl# | 0 1 sl gBag_items | 1 | 
structure Piece where
  op : Int
  label : UInt8
  kids : List Int
deriving DecidableEq, Inhabited
def gPiece : Gt Piece := gIso (SX.gPair gI (SX.gPair gY (gSl 3 gI))) (fun x => (x.op, (x.label, x.kids))) (fun p => ⟨p.1, p.2.1, p.2.2⟩)
theorem gPiece_rd {H : Hp} {l : List Value} {x : Piece} : gPiece.rd H l x ↔ ∃ (b2 : Option Addr) (c2 : Nat), l = .int .i64 x.op :: .int .u8 (x.label).toNat :: .slice b2 x.kids.length c2 :: [] ∧ okI x.op ∧ (gSl 3 gI).rd H [.slice b2 x.kids.length c2] x.kids := by
  constructor
  · rintro ⟨m0, q0, rfl, h0, m1, q1, rfl, h1, h2⟩
    obtain ⟨rfl, w0⟩ := h0
    obtain ⟨rfl, w1⟩ := h1
    obtain ⟨b2, c2, rfl, h2⟩ := sl_rd h2
    exact ⟨b2, c2, rfl, w0, h2⟩
  rintro ⟨b2, c2, rfl, w0, h2⟩
  exact ⟨[.int .i64 x.op], .int .u8 (x.label).toNat :: .slice b2 x.kids.length c2 :: [], rfl, ⟨rfl, w0⟩, ⟨[.int .u8 (x.label).toNat], [.slice b2 x.kids.length c2], rfl, ⟨rfl, trivial⟩, h2⟩⟩
open Classical in
theorem gPiece_ow {A : Hp} {l : List Value} {x : Piece} : gPiece.ow l x A ↔ ∃ (b2 : Option Addr) (c2 : Nat) (A2 : Hp), l = .int .i64 x.op :: .int .u8 (x.label).toNat :: .slice b2 x.kids.length c2 :: [] ∧ A.Perm A2 ∧ okI x.op ∧ (gSl 3 gI).ow [.slice b2 x.kids.length c2] x.kids A2 := by
  constructor
  · rintro ⟨m0, q0, D0, E0, rfl, p0, h0, m1, q1, D1, E1, rfl, p1, h1, h2⟩
    obtain ⟨rfl, w0, e0⟩ := h0
    subst e0
    obtain ⟨rfl, w1, e1⟩ := h1
    subst e1
    obtain ⟨b2, c2, rfl, h2⟩ := sl_ow h2
    exact ⟨b2, c2, E1, rfl, (perm_cnt fun a => by have e0 := p0.count_eq a; have e1 := p1.count_eq a; simp only [List.count_append, List.count_nil] at *; omega), w0, h2⟩
  rintro ⟨b2, c2, A2, rfl, hp, w0, h2⟩
  exact ⟨[.int .i64 x.op], .int .u8 (x.label).toNat :: .slice b2 x.kids.length c2 :: [], [], ([] ++ A2), rfl, (perm_cnt fun a => by have e := hp.count_eq a; simp only [List.count_append, List.count_nil] at *; omega), ⟨rfl, w0, rfl⟩, ⟨[.int .u8 (x.label).toNat], [.slice b2 x.kids.length c2], [], A2, rfl, .refl _, ⟨rfl, trivial, rfl⟩, h2⟩⟩
theorem Piece.eq_iff {x y : Piece} : x = y ↔ x.op = y.op ∧ x.label = y.label ∧ x.kids = y.kids := by cases x; cases y; simp
--@gt impl.Piece | gPiece | default | obtain ⟨b2x#, c2x#, rfl, w0x#, h2x#⟩ := gPiece_rd.1 hl# | 0 1 pr gPiece_op ; 1 1 pr gPiece_label ; 2 1 sl gPiece_kids | 3 | 
structure Path where
  pieces : List Piece
deriving DecidableEq, Inhabited
def gPath : Gt Path := gIso (gSl 279 gPiece) (fun x => x.pieces) (fun p => ⟨p⟩)
theorem gPath_rd {H : Hp} {l : List Value} {x : Path} : gPath.rd H l x ↔ ∃ (b0 : Option Addr) (c0 : Nat), l = .slice b0 x.pieces.length c0 :: [] ∧ (gSl 279 gPiece).rd H [.slice b0 x.pieces.length c0] x.pieces := by
  constructor
  · rintro h0
    obtain ⟨b0, c0, rfl, h0⟩ := sl_rd h0
    exact ⟨b0, c0, rfl, h0⟩
  rintro ⟨b0, c0, rfl, h0⟩
  exact h0
theorem Path.eq_iff {x y : Path} : x = y ↔ x.pieces = y.pieces := by cases x; cases y; simp
--@gt impl.Path | gPath | default | obtain ⟨b0x#, c0x#, rfl, h0x#⟩ := gPath_rd.1 hl# | 0 1 sl gPath_pieces | 1 | 
structure Arc where
  from' : Int
  label : UInt8
  to : Int
deriving DecidableEq, Inhabited
def gArc : Gt Arc := gIso (SX.gPair gI (SX.gPair gY gI)) (fun x => (x.from', (x.label, x.to))) (fun p => ⟨p.1, p.2.1, p.2.2⟩)
theorem gArc_rd {H : Hp} {l : List Value} {x : Arc} : gArc.rd H l x ↔ l = .int .i64 x.from' :: .int .u8 (x.label).toNat :: .int .i64 x.to :: [] ∧ okI x.from' ∧ okI x.to := by
  constructor
  · rintro ⟨m0, q0, rfl, h0, m1, q1, rfl, h1, h2⟩
    obtain ⟨rfl, w0⟩ := h0
    obtain ⟨rfl, w1⟩ := h1
    obtain ⟨rfl, w2⟩ := h2
    exact ⟨rfl, w0, w2⟩
  rintro ⟨rfl, w0, w2⟩
  exact ⟨[.int .i64 x.from'], .int .u8 (x.label).toNat :: .int .i64 x.to :: [], rfl, ⟨rfl, w0⟩, ⟨[.int .u8 (x.label).toNat], [.int .i64 x.to], rfl, ⟨rfl, trivial⟩, ⟨rfl, w2⟩⟩⟩
open Classical in
theorem gArc_ow {A : Hp} {l : List Value} {x : Arc} : gArc.ow l x A ↔ l = .int .i64 x.from' :: .int .u8 (x.label).toNat :: .int .i64 x.to :: [] ∧ A.Perm [] ∧ okI x.from' ∧ okI x.to := by
  constructor
  · rintro ⟨m0, q0, D0, E0, rfl, p0, h0, m1, q1, D1, E1, rfl, p1, h1, h2⟩
    obtain ⟨rfl, w0, e0⟩ := h0
    subst e0
    obtain ⟨rfl, w1, e1⟩ := h1
    subst e1
    obtain ⟨rfl, w2, e2⟩ := h2
    subst e2
    exact ⟨rfl, (perm_cnt fun a => by have e0 := p0.count_eq a; have e1 := p1.count_eq a; simp only [List.count_append, List.count_nil] at *; omega), w0, w2⟩
  rintro ⟨rfl, hp, w0, w2⟩
  exact ⟨[.int .i64 x.from'], .int .u8 (x.label).toNat :: .int .i64 x.to :: [], [], ([] ++ []), rfl, (perm_cnt fun a => by have e := hp.count_eq a; simp only [List.count_append, List.count_nil] at *; omega), ⟨rfl, w0, rfl⟩, ⟨[.int .u8 (x.label).toNat], [.int .i64 x.to], [], [], rfl, .refl _, ⟨rfl, trivial, rfl⟩, ⟨rfl, w2, rfl⟩⟩⟩
theorem Arc.eq_iff {x y : Arc} : x = y ↔ x.from' = y.from' ∧ x.label = y.label ∧ x.to = y.to := by cases x; cases y; simp
theorem gArc_own {H : Hp} {l : List Value} {x : Arc} (h : gArc.rd H l x) : gArc.ow l x [] := by
  obtain ⟨rfl, w0, w2⟩ := gArc_rd.1 h
  exact gArc_ow.2 ⟨rfl, by simp, w0, w2⟩
--@gt impl.Arc | gArc | default | obtain ⟨rfl, w0x#, w2x#⟩ := gArc_rd.1 hl# | 0 1 pr gArc_from ; 1 1 pr gArc_label ; 2 1 pr gArc_to | 3 | gArc_own ‹_›
structure Nfa where
  states : Int
  arcs : List Arc
  ends : List Bool
deriving DecidableEq, Inhabited
def gNfa : Gt Nfa := gIso (SX.gPair gI (SX.gPair (gSl 282 gArc) (gSl 4 gB))) (fun x => (x.states, (x.arcs, x.ends))) (fun p => ⟨p.1, p.2.1, p.2.2⟩)
theorem gNfa_rd {H : Hp} {l : List Value} {x : Nfa} : gNfa.rd H l x ↔ ∃ (b1 : Option Addr) (c1 : Nat) (b2 : Option Addr) (c2 : Nat), l = .int .i64 x.states :: .slice b1 x.arcs.length c1 :: .slice b2 x.ends.length c2 :: [] ∧ okI x.states ∧ (gSl 282 gArc).rd H [.slice b1 x.arcs.length c1] x.arcs ∧ (gSl 4 gB).rd H [.slice b2 x.ends.length c2] x.ends := by
  constructor
  · rintro ⟨m0, q0, rfl, h0, m1, q1, rfl, h1, h2⟩
    obtain ⟨rfl, w0⟩ := h0
    obtain ⟨b1, c1, rfl, h1⟩ := sl_rd h1
    obtain ⟨b2, c2, rfl, h2⟩ := sl_rd h2
    exact ⟨b1, c1, b2, c2, rfl, w0, h1, h2⟩
  rintro ⟨b1, c1, b2, c2, rfl, w0, h1, h2⟩
  exact ⟨[.int .i64 x.states], .slice b1 x.arcs.length c1 :: .slice b2 x.ends.length c2 :: [], rfl, ⟨rfl, w0⟩, ⟨[.slice b1 x.arcs.length c1], [.slice b2 x.ends.length c2], rfl, h1, h2⟩⟩
open Classical in
theorem gNfa_ow {A : Hp} {l : List Value} {x : Nfa} : gNfa.ow l x A ↔ ∃ (b1 : Option Addr) (c1 : Nat) (A1 : Hp) (b2 : Option Addr) (c2 : Nat) (A2 : Hp), l = .int .i64 x.states :: .slice b1 x.arcs.length c1 :: .slice b2 x.ends.length c2 :: [] ∧ A.Perm (A1 ++ A2) ∧ okI x.states ∧ (gSl 282 gArc).ow [.slice b1 x.arcs.length c1] x.arcs A1 ∧ (gSl 4 gB).ow [.slice b2 x.ends.length c2] x.ends A2 := by
  constructor
  · rintro ⟨m0, q0, D0, E0, rfl, p0, h0, m1, q1, D1, E1, rfl, p1, h1, h2⟩
    obtain ⟨rfl, w0, e0⟩ := h0
    subst e0
    obtain ⟨b1, c1, rfl, h1⟩ := sl_ow h1
    obtain ⟨b2, c2, rfl, h2⟩ := sl_ow h2
    exact ⟨b1, c1, D1, b2, c2, E1, rfl, (perm_cnt fun a => by have e0 := p0.count_eq a; have e1 := p1.count_eq a; simp only [List.count_append, List.count_nil] at *; omega), w0, h1, h2⟩
  rintro ⟨b1, c1, A1, b2, c2, A2, rfl, hp, w0, h1, h2⟩
  exact ⟨[.int .i64 x.states], .slice b1 x.arcs.length c1 :: .slice b2 x.ends.length c2 :: [], [], (A1 ++ A2), rfl, (perm_cnt fun a => by have e := hp.count_eq a; simp only [List.count_append, List.count_nil] at *; omega), ⟨rfl, w0, rfl⟩, ⟨[.slice b1 x.arcs.length c1], [.slice b2 x.ends.length c2], A1, A2, rfl, .refl _, h1, h2⟩⟩
def zNfa : Nfa := ⟨0, [], []⟩
theorem zNfa_ow : gNfa.ow [.int .i64 0, .slice none 0 0, .slice none 0 0] zNfa [] := gNfa_ow.2 ⟨none, 0, [], none, 0, [], rfl, by simp, by first | (unfold okI; decide) | decide, sl_nil _ _ _, sl_nil _ _ _⟩
theorem Nfa.eq_iff {x y : Nfa} : x = y ↔ x.states = y.states ∧ x.arcs = y.arcs ∧ x.ends = y.ends := by cases x; cases y; simp
--@gt impl.Nfa | gNfa | default | obtain ⟨b1x#, c1x#, b2x#, c2x#, rfl, w0x#, h1x#, h2x#⟩ := gNfa_rd.1 hl# | 0 1 pr gNfa_states ; 1 1 sl gNfa_arcs ; 2 1 sl gNfa_ends | 3 | 
structure Atom where
  from' : ByteArray
  path : ByteArray
  to : ByteArray
deriving DecidableEq, Inhabited
def gAtom : Gt Atom := gIso (SX.gPair gS (SX.gPair gS gS)) (fun x => (x.from', (x.path, x.to))) (fun p => ⟨p.1, p.2.1, p.2.2⟩)
theorem gAtom_rd {H : Hp} {l : List Value} {x : Atom} : gAtom.rd H l x ↔ l = .string x.from' :: .string x.path :: .string x.to :: [] ∧ x.from'.size ≤ 9223372036854775807 ∧ x.path.size ≤ 9223372036854775807 ∧ x.to.size ≤ 9223372036854775807 := by
  constructor
  · rintro ⟨m0, q0, rfl, h0, m1, q1, rfl, h1, h2⟩
    obtain ⟨rfl, w0⟩ := h0
    obtain ⟨rfl, w1⟩ := h1
    obtain ⟨rfl, w2⟩ := h2
    exact ⟨rfl, w0, w1, w2⟩
  rintro ⟨rfl, w0, w1, w2⟩
  exact ⟨[.string x.from'], .string x.path :: .string x.to :: [], rfl, ⟨rfl, w0⟩, ⟨[.string x.path], [.string x.to], rfl, ⟨rfl, w1⟩, ⟨rfl, w2⟩⟩⟩
open Classical in
theorem gAtom_ow {A : Hp} {l : List Value} {x : Atom} : gAtom.ow l x A ↔ l = .string x.from' :: .string x.path :: .string x.to :: [] ∧ A.Perm [] ∧ x.from'.size ≤ 9223372036854775807 ∧ x.path.size ≤ 9223372036854775807 ∧ x.to.size ≤ 9223372036854775807 := by
  constructor
  · rintro ⟨m0, q0, D0, E0, rfl, p0, h0, m1, q1, D1, E1, rfl, p1, h1, h2⟩
    obtain ⟨rfl, w0, e0⟩ := h0
    subst e0
    obtain ⟨rfl, w1, e1⟩ := h1
    subst e1
    obtain ⟨rfl, w2, e2⟩ := h2
    subst e2
    exact ⟨rfl, (perm_cnt fun a => by have e0 := p0.count_eq a; have e1 := p1.count_eq a; simp only [List.count_append, List.count_nil] at *; omega), w0, w1, w2⟩
  rintro ⟨rfl, hp, w0, w1, w2⟩
  exact ⟨[.string x.from'], .string x.path :: .string x.to :: [], [], ([] ++ []), rfl, (perm_cnt fun a => by have e := hp.count_eq a; simp only [List.count_append, List.count_nil] at *; omega), ⟨rfl, w0, rfl⟩, ⟨[.string x.path], [.string x.to], [], [], rfl, .refl _, ⟨rfl, w1, rfl⟩, ⟨rfl, w2, rfl⟩⟩⟩
theorem opens_Atom : Opens Tryz.prog gAtom.toRp 149 := by
  intro H' enc w H sp hd fuel cs d ps hcov ht
  obtain ⟨h1, h2⟩ := trod_fields ty149_ok.1 ht
  obtain ⟨_, _, t0⟩ := h2 0 0 9 rfl
  obtain ⟨x0, r0⟩ := (opens_fs ty9_ok.1) _ _ H _ _ _ _ _ _ hcov t0
  rw [show Tryz.prog.cellsOf 9 = 1 by kernel_rfl] at r0
  obtain ⟨_, _, t1⟩ := h2 1 1 9 rfl
  obtain ⟨x1, r1⟩ := (opens_fs ty9_ok.1) _ _ H _ _ _ _ _ _ hcov t1
  rw [show Tryz.prog.cellsOf 9 = 1 by kernel_rfl] at r1
  obtain ⟨_, _, t2⟩ := h2 2 2 9 rfl
  obtain ⟨x2, r2⟩ := (opens_fs ty9_ok.1) _ _ H _ _ _ _ _ _ hcov t2
  rw [show Tryz.prog.cellsOf 9 = 1 by kernel_rfl] at r2
  rw [show Tryz.prog.cellsOf 149 = 3 by kernel_rfl] at h1
  have key : gAtom.rd H ((cs.drop 0).take 3) ⟨x0, x1, x2⟩ := (pair_at (g := gS) (h := (SX.gPair gS gS)) (off := 0) r0 (pair_at (g := gS) (h := gS) (off := 1) r1 r2))
  rw [List.drop_zero, List.take_of_length_le (by omega)] at key
  exact ⟨_, key⟩
def zAtom : Atom := ⟨ByteArray.empty, ByteArray.empty, ByteArray.empty⟩
theorem zAtom_ow : gAtom.ow [.string .empty, .string .empty, .string .empty] zAtom [] := gAtom_ow.2 ⟨rfl, by simp, by first | (unfold okI; decide) | decide, by first | (unfold okI; decide) | decide, by first | (unfold okI; decide) | decide⟩
theorem gAtom_from : Fld gAtom gS (fun x => x.from') (fun x y => { x with from' := y }) 0 := (Fld.fst _ _).iso (fun _ => rfl) (fun _ _ => rfl)
theorem gAtom_path : Fld gAtom gS (fun x => x.path) (fun x y => { x with path := y }) 1 := ((Fld.snd _ _).comp (Fld.fst _ _)).iso (fun _ => rfl) (fun _ _ => rfl)
theorem gAtom_to : Fld gAtom gS (fun x => x.to) (fun x y => { x with to := y }) 2 := ((Fld.snd _ _).comp (Fld.snd _ _)).iso (fun _ => rfl) (fun _ _ => rfl)
theorem gAtom_sz (x : Atom) : gAtom.sz x = x.from'.size + (x.path.size + (x.to.size)) := rfl
theorem gAtom_cnt (x : Atom) : gAtom.cnt x = 1 + (1 + (1)) := rfl
theorem gAtom_mark (k : Int) (x : Atom) : gAtom.mark k x = ⟨mtx (k), mtx (k + 1), mtx (k + 1 + 1)⟩ := by
  have h : gAtom.mark k x = ⟨mtx (k), mtx ((k + ((1 : Nat) : Int))), mtx (((k + ((1 : Nat) : Int)) + ((1 : Nat) : Int)))⟩ := rfl
  rw [h] <;> simp
theorem Atom.eq_iff {x y : Atom} : x = y ↔ x.from' = y.from' ∧ x.path = y.path ∧ x.to = y.to := by cases x; cases y; simp
--@gt impl.Atom | gAtom | default | obtain ⟨rfl, w0x#, w1x#, w2x#⟩ := gAtom_rd.1 hl# | 0 1 pr gAtom_from ; 1 1 pr gAtom_path ; 2 1 pr gAtom_to | 3 | gAtom_own ‹_›
structure Filter where
  left : ByteArray
  op : Int
  right : ByteArray
  num : Int
deriving DecidableEq, Inhabited
def gFilter : Gt Filter := gIso (SX.gPair gS (SX.gPair gI (SX.gPair gS gI))) (fun x => (x.left, (x.op, (x.right, x.num)))) (fun p => ⟨p.1, p.2.1, p.2.2.1, p.2.2.2⟩)
theorem gFilter_rd {H : Hp} {l : List Value} {x : Filter} : gFilter.rd H l x ↔ l = .string x.left :: .int .i64 x.op :: .string x.right :: .int .i64 x.num :: [] ∧ x.left.size ≤ 9223372036854775807 ∧ okI x.op ∧ x.right.size ≤ 9223372036854775807 ∧ okI x.num := by
  constructor
  · rintro ⟨m0, q0, rfl, h0, m1, q1, rfl, h1, m2, q2, rfl, h2, h3⟩
    obtain ⟨rfl, w0⟩ := h0
    obtain ⟨rfl, w1⟩ := h1
    obtain ⟨rfl, w2⟩ := h2
    obtain ⟨rfl, w3⟩ := h3
    exact ⟨rfl, w0, w1, w2, w3⟩
  rintro ⟨rfl, w0, w1, w2, w3⟩
  exact ⟨[.string x.left], .int .i64 x.op :: .string x.right :: .int .i64 x.num :: [], rfl, ⟨rfl, w0⟩, ⟨[.int .i64 x.op], .string x.right :: .int .i64 x.num :: [], rfl, ⟨rfl, w1⟩, ⟨[.string x.right], [.int .i64 x.num], rfl, ⟨rfl, w2⟩, ⟨rfl, w3⟩⟩⟩⟩
open Classical in
theorem gFilter_ow {A : Hp} {l : List Value} {x : Filter} : gFilter.ow l x A ↔ l = .string x.left :: .int .i64 x.op :: .string x.right :: .int .i64 x.num :: [] ∧ A.Perm [] ∧ x.left.size ≤ 9223372036854775807 ∧ okI x.op ∧ x.right.size ≤ 9223372036854775807 ∧ okI x.num := by
  constructor
  · rintro ⟨m0, q0, D0, E0, rfl, p0, h0, m1, q1, D1, E1, rfl, p1, h1, m2, q2, D2, E2, rfl, p2, h2, h3⟩
    obtain ⟨rfl, w0, e0⟩ := h0
    subst e0
    obtain ⟨rfl, w1, e1⟩ := h1
    subst e1
    obtain ⟨rfl, w2, e2⟩ := h2
    subst e2
    obtain ⟨rfl, w3, e3⟩ := h3
    subst e3
    exact ⟨rfl, (perm_cnt fun a => by have e0 := p0.count_eq a; have e1 := p1.count_eq a; have e2 := p2.count_eq a; simp only [List.count_append, List.count_nil] at *; omega), w0, w1, w2, w3⟩
  rintro ⟨rfl, hp, w0, w1, w2, w3⟩
  exact ⟨[.string x.left], .int .i64 x.op :: .string x.right :: .int .i64 x.num :: [], [], ([] ++ ([] ++ [])), rfl, (perm_cnt fun a => by have e := hp.count_eq a; simp only [List.count_append, List.count_nil] at *; omega), ⟨rfl, w0, rfl⟩, ⟨[.int .i64 x.op], .string x.right :: .int .i64 x.num :: [], [], ([] ++ []), rfl, .refl _, ⟨rfl, w1, rfl⟩, ⟨[.string x.right], [.int .i64 x.num], [], [], rfl, .refl _, ⟨rfl, w2, rfl⟩, ⟨rfl, w3, rfl⟩⟩⟩⟩
theorem opens_Filter : Opens Tryz.prog gFilter.toRp 152 := by
  intro H' enc w H sp hd fuel cs d ps hcov ht
  obtain ⟨h1, h2⟩ := trod_fields ty152_ok.1 ht
  obtain ⟨_, _, t0⟩ := h2 0 0 9 rfl
  obtain ⟨x0, r0⟩ := (opens_fs ty9_ok.1) _ _ H _ _ _ _ _ _ hcov t0
  rw [show Tryz.prog.cellsOf 9 = 1 by kernel_rfl] at r0
  obtain ⟨_, _, t1⟩ := h2 1 1 3 rfl
  obtain ⟨x1, r1⟩ := (opens_fi ty3_ok.1) _ _ H _ _ _ _ _ _ hcov t1
  rw [show Tryz.prog.cellsOf 3 = 1 by kernel_rfl] at r1
  obtain ⟨_, _, t2⟩ := h2 2 2 9 rfl
  obtain ⟨x2, r2⟩ := (opens_fs ty9_ok.1) _ _ H _ _ _ _ _ _ hcov t2
  rw [show Tryz.prog.cellsOf 9 = 1 by kernel_rfl] at r2
  obtain ⟨_, _, t3⟩ := h2 3 3 3 rfl
  obtain ⟨x3, r3⟩ := (opens_fi ty3_ok.1) _ _ H _ _ _ _ _ _ hcov t3
  rw [show Tryz.prog.cellsOf 3 = 1 by kernel_rfl] at r3
  rw [show Tryz.prog.cellsOf 152 = 4 by kernel_rfl] at h1
  have key : gFilter.rd H ((cs.drop 0).take 4) ⟨x0, x1, x2, x3⟩ := (pair_at (g := gS) (h := (SX.gPair gI (SX.gPair gS gI))) (off := 0) r0 (pair_at (g := gI) (h := (SX.gPair gS gI)) (off := 1) r1 (pair_at (g := gS) (h := gI) (off := 2) r2 r3)))
  rw [List.drop_zero, List.take_of_length_le (by omega)] at key
  exact ⟨_, key⟩
def zFilter : Filter := ⟨ByteArray.empty, 0, ByteArray.empty, 0⟩
theorem zFilter_ow : gFilter.ow [.string .empty, .int .i64 0, .string .empty, .int .i64 0] zFilter [] := gFilter_ow.2 ⟨rfl, by simp, by first | (unfold okI; decide) | decide, by first | (unfold okI; decide) | decide, by first | (unfold okI; decide) | decide, by first | (unfold okI; decide) | decide⟩
theorem gFilter_left : Fld gFilter gS (fun x => x.left) (fun x y => { x with left := y }) 0 := (Fld.fst _ _).iso (fun _ => rfl) (fun _ _ => rfl)
theorem gFilter_op : Fld gFilter gI (fun x => x.op) (fun x y => { x with op := y }) 1 := ((Fld.snd _ _).comp (Fld.fst _ _)).iso (fun _ => rfl) (fun _ _ => rfl)
theorem gFilter_right : Fld gFilter gS (fun x => x.right) (fun x y => { x with right := y }) 2 := ((Fld.snd _ _).comp ((Fld.snd _ _).comp (Fld.fst _ _))).iso (fun _ => rfl) (fun _ _ => rfl)
theorem gFilter_num : Fld gFilter gI (fun x => x.num) (fun x y => { x with num := y }) 3 := ((Fld.snd _ _).comp ((Fld.snd _ _).comp (Fld.snd _ _))).iso (fun _ => rfl) (fun _ _ => rfl)
theorem gFilter_sz (x : Filter) : gFilter.sz x = x.left.size + (0 + (x.right.size + (0))) := rfl
theorem gFilter_cnt (x : Filter) : gFilter.cnt x = 1 + (1 + (1 + (1))) := rfl
theorem gFilter_mark (k : Int) (x : Filter) : gFilter.mark k x = ⟨mtx (k), k + 1, mtx (k + 1 + 1), k + 1 + 1 + 1⟩ := by
  have h : gFilter.mark k x = ⟨mtx (k), (k + ((1 : Nat) : Int)), mtx (((k + ((1 : Nat) : Int)) + ((1 : Nat) : Int))), (((k + ((1 : Nat) : Int)) + ((1 : Nat) : Int)) + ((1 : Nat) : Int))⟩ := rfl
  rw [h] <;> simp
theorem Filter.eq_iff {x y : Filter} : x = y ↔ x.left = y.left ∧ x.op = y.op ∧ x.right = y.right ∧ x.num = y.num := by cases x; cases y; simp
--@gt impl.Filter | gFilter | default | obtain ⟨rfl, w0x#, w1x#, w2x#, w3x#⟩ := gFilter_rd.1 hl# | 0 1 pr gFilter_left ; 1 1 pr gFilter_op ; 2 1 pr gFilter_right ; 3 1 pr gFilter_num | 4 | gFilter_own ‹_›
structure Query where
  each : Bool
  out : List ByteArray
  atoms : List Atom
  filters : List Filter
deriving DecidableEq, Inhabited
def gQuery : Gt Query := gIso (SX.gPair gB (SX.gPair (gSl 9 gS) (SX.gPair (gSl 154 gAtom) (gSl 157 gFilter)))) (fun x => (x.each, (x.out, (x.atoms, x.filters)))) (fun p => ⟨p.1, p.2.1, p.2.2.1, p.2.2.2⟩)
theorem gQuery_rd {H : Hp} {l : List Value} {x : Query} : gQuery.rd H l x ↔ ∃ (b1 : Option Addr) (c1 : Nat) (b2 : Option Addr) (c2 : Nat) (b3 : Option Addr) (c3 : Nat), l = .bool x.each :: .slice b1 x.out.length c1 :: .slice b2 x.atoms.length c2 :: .slice b3 x.filters.length c3 :: [] ∧ (gSl 9 gS).rd H [.slice b1 x.out.length c1] x.out ∧ (gSl 154 gAtom).rd H [.slice b2 x.atoms.length c2] x.atoms ∧ (gSl 157 gFilter).rd H [.slice b3 x.filters.length c3] x.filters := by
  constructor
  · rintro ⟨m0, q0, rfl, h0, m1, q1, rfl, h1, m2, q2, rfl, h2, h3⟩
    obtain ⟨rfl, w0⟩ := h0
    obtain ⟨b1, c1, rfl, h1⟩ := sl_rd h1
    obtain ⟨b2, c2, rfl, h2⟩ := sl_rd h2
    obtain ⟨b3, c3, rfl, h3⟩ := sl_rd h3
    exact ⟨b1, c1, b2, c2, b3, c3, rfl, h1, h2, h3⟩
  rintro ⟨b1, c1, b2, c2, b3, c3, rfl, h1, h2, h3⟩
  exact ⟨[.bool x.each], .slice b1 x.out.length c1 :: .slice b2 x.atoms.length c2 :: .slice b3 x.filters.length c3 :: [], rfl, ⟨rfl, trivial⟩, ⟨[.slice b1 x.out.length c1], .slice b2 x.atoms.length c2 :: .slice b3 x.filters.length c3 :: [], rfl, h1, ⟨[.slice b2 x.atoms.length c2], [.slice b3 x.filters.length c3], rfl, h2, h3⟩⟩⟩
open Classical in
theorem gQuery_ow {A : Hp} {l : List Value} {x : Query} : gQuery.ow l x A ↔ ∃ (b1 : Option Addr) (c1 : Nat) (A1 : Hp) (b2 : Option Addr) (c2 : Nat) (A2 : Hp) (b3 : Option Addr) (c3 : Nat) (A3 : Hp), l = .bool x.each :: .slice b1 x.out.length c1 :: .slice b2 x.atoms.length c2 :: .slice b3 x.filters.length c3 :: [] ∧ A.Perm (A1 ++ (A2 ++ A3)) ∧ (gSl 9 gS).ow [.slice b1 x.out.length c1] x.out A1 ∧ (gSl 154 gAtom).ow [.slice b2 x.atoms.length c2] x.atoms A2 ∧ (gSl 157 gFilter).ow [.slice b3 x.filters.length c3] x.filters A3 := by
  constructor
  · rintro ⟨m0, q0, D0, E0, rfl, p0, h0, m1, q1, D1, E1, rfl, p1, h1, m2, q2, D2, E2, rfl, p2, h2, h3⟩
    obtain ⟨rfl, w0, e0⟩ := h0
    subst e0
    obtain ⟨b1, c1, rfl, h1⟩ := sl_ow h1
    obtain ⟨b2, c2, rfl, h2⟩ := sl_ow h2
    obtain ⟨b3, c3, rfl, h3⟩ := sl_ow h3
    exact ⟨b1, c1, D1, b2, c2, D2, b3, c3, E2, rfl, (perm_cnt fun a => by have e0 := p0.count_eq a; have e1 := p1.count_eq a; have e2 := p2.count_eq a; simp only [List.count_append, List.count_nil] at *; omega), h1, h2, h3⟩
  rintro ⟨b1, c1, A1, b2, c2, A2, b3, c3, A3, rfl, hp, h1, h2, h3⟩
  exact ⟨[.bool x.each], .slice b1 x.out.length c1 :: .slice b2 x.atoms.length c2 :: .slice b3 x.filters.length c3 :: [], [], (A1 ++ (A2 ++ A3)), rfl, (perm_cnt fun a => by have e := hp.count_eq a; simp only [List.count_append, List.count_nil] at *; omega), ⟨rfl, trivial, rfl⟩, ⟨[.slice b1 x.out.length c1], .slice b2 x.atoms.length c2 :: .slice b3 x.filters.length c3 :: [], A1, (A2 ++ A3), rfl, .refl _, h1, ⟨[.slice b2 x.atoms.length c2], [.slice b3 x.filters.length c3], A2, A3, rfl, .refl _, h2, h3⟩⟩⟩
theorem opens_Query : Opens Tryz.prog gQuery.toRp 26 := by
  intro H' enc w H sp hd fuel cs d ps hcov ht
  obtain ⟨h1, h2⟩ := trod_fields ty26_ok.1 ht
  obtain ⟨_, _, t0⟩ := h2 0 0 4 rfl
  obtain ⟨x0, r0⟩ := (opens_fb ty4_ok.1) _ _ H _ _ _ _ _ _ hcov t0
  rw [show Tryz.prog.cellsOf 4 = 1 by kernel_rfl] at r0
  obtain ⟨_, _, t1⟩ := h2 1 1 22 rfl
  obtain ⟨x1, r1⟩ := (opens_sl ty22_ok.1 (by kernel_rfl) (by decide) (opens_fs ty9_ok.1)) _ _ H _ _ _ _ _ _ hcov t1
  rw [show Tryz.prog.cellsOf 22 = 1 by kernel_rfl] at r1
  obtain ⟨_, _, t2⟩ := h2 2 2 23 rfl
  obtain ⟨x2, r2⟩ := (opens_sl ty23_ok.1 (by kernel_rfl) (by decide) opens_Atom) _ _ H _ _ _ _ _ _ hcov t2
  rw [show Tryz.prog.cellsOf 23 = 1 by kernel_rfl] at r2
  obtain ⟨_, _, t3⟩ := h2 3 3 24 rfl
  obtain ⟨x3, r3⟩ := (opens_sl ty24_ok.1 (by kernel_rfl) (by decide) opens_Filter) _ _ H _ _ _ _ _ _ hcov t3
  rw [show Tryz.prog.cellsOf 24 = 1 by kernel_rfl] at r3
  rw [show Tryz.prog.cellsOf 26 = 4 by kernel_rfl] at h1
  have key : gQuery.rd H ((cs.drop 0).take 4) ⟨x0, x1, x2, x3⟩ := (pair_at (g := gB) (h := (SX.gPair (gSl 9 gS) (SX.gPair (gSl 154 gAtom) (gSl 157 gFilter)))) (off := 0) r0 (pair_at (g := (gSl 9 gS)) (h := (SX.gPair (gSl 154 gAtom) (gSl 157 gFilter))) (off := 1) r1 (pair_at (g := (gSl 154 gAtom)) (h := (gSl 157 gFilter)) (off := 2) r2 r3)))
  rw [List.drop_zero, List.take_of_length_le (by omega)] at key
  exact ⟨_, key⟩
theorem gQuery_sz (x : Query) : gQuery.sz x = 0 + (szL gS x.out + (szL gAtom x.atoms + (szL gFilter x.filters))) := rfl
theorem gQuery_cntV (x : Query) : gQuery.cntV x = 0 + (cntL gS x.out + (cntL gAtom x.atoms + (cntL gFilter x.filters))) := rfl
theorem gQuery_markV (k : Int) (x : Query) : gQuery.markV k x = ⟨x.each, mkL gS (k) x.out, mkL gAtom (k + cntL gS x.out) x.atoms, mkL gFilter (k + cntL gS x.out + cntL gAtom x.atoms) x.filters⟩ := by
  have h : gQuery.markV k x = ⟨x.each, mkL gS ((k + ((0 : Nat) : Int))) x.out, mkL gAtom (((k + ((0 : Nat) : Int)) + ((cntL gS x.out : Nat) : Int))) x.atoms, mkL gFilter ((((k + ((0 : Nat) : Int)) + ((cntL gS x.out : Nat) : Int)) + ((cntL gAtom x.atoms : Nat) : Int))) x.filters⟩ := rfl
  rw [h] <;> simp
theorem Query.eq_iff {x y : Query} : x = y ↔ x.each = y.each ∧ x.out = y.out ∧ x.atoms = y.atoms ∧ x.filters = y.filters := by cases x; cases y; simp
--@gt impl.Query | gQuery | default | obtain ⟨b1x#, c1x#, b2x#, c2x#, b3x#, c3x#, rfl, h1x#, h2x#, h3x#⟩ := gQuery_rd.1 hl# | 0 1 pr gQuery_each ; 1 1 sl gQuery_out ; 2 1 sl gQuery_atoms ; 3 1 sl gQuery_filters | 4 | 
structure File where
  name : ByteArray
  text : ByteArray
  kept : Int
deriving DecidableEq, Inhabited
theorem File.eq_iff {x y : File} : x = y ↔ x.name = y.name ∧ x.text = y.text ∧ x.kept = y.kept := by cases x; cases y; simp
--@gt impl.File | gFile | default | obtain ⟨rfl, w0x#, w1x#, w2x#⟩ := gFile_rd.1 hl# | 0 1 pr gFile_name ; 1 1 pr gFile_text ; 2 1 pr gFile_kept | 3 | gFile_own ‹_›
structure Disk where
  files : List File
deriving DecidableEq, Inhabited
theorem Disk.eq_iff {x y : Disk} : x = y ↔ x.files = y.files := by cases x; cases y; simp
--@gt impl.Disk | gDisk | default | obtain ⟨b0x#, c0x#, rfl, h0x#⟩ := gDisk_rd.1 hl# | 0 1 sl gDisk_files | 1 | 
structure Walk where
  atom : Int
  src : Int
  at' : Int
  state : Int
deriving DecidableEq, Inhabited
def gWalk : Gt Walk := gIso (SX.gPair gI (SX.gPair gI (SX.gPair gI gI))) (fun x => (x.atom, (x.src, (x.at', x.state)))) (fun p => ⟨p.1, p.2.1, p.2.2.1, p.2.2.2⟩)
theorem gWalk_rd {H : Hp} {l : List Value} {x : Walk} : gWalk.rd H l x ↔ l = .int .i64 x.atom :: .int .i64 x.src :: .int .i64 x.at' :: .int .i64 x.state :: [] ∧ okI x.atom ∧ okI x.src ∧ okI x.at' ∧ okI x.state := by
  constructor
  · rintro ⟨m0, q0, rfl, h0, m1, q1, rfl, h1, m2, q2, rfl, h2, h3⟩
    obtain ⟨rfl, w0⟩ := h0
    obtain ⟨rfl, w1⟩ := h1
    obtain ⟨rfl, w2⟩ := h2
    obtain ⟨rfl, w3⟩ := h3
    exact ⟨rfl, w0, w1, w2, w3⟩
  rintro ⟨rfl, w0, w1, w2, w3⟩
  exact ⟨[.int .i64 x.atom], .int .i64 x.src :: .int .i64 x.at' :: .int .i64 x.state :: [], rfl, ⟨rfl, w0⟩, ⟨[.int .i64 x.src], .int .i64 x.at' :: .int .i64 x.state :: [], rfl, ⟨rfl, w1⟩, ⟨[.int .i64 x.at'], [.int .i64 x.state], rfl, ⟨rfl, w2⟩, ⟨rfl, w3⟩⟩⟩⟩
theorem gWalk_atom : Fld gWalk gI (fun x => x.atom) (fun x y => { x with atom := y }) 0 := (Fld.fst _ _).iso (fun _ => rfl) (fun _ _ => rfl)
theorem gWalk_src : Fld gWalk gI (fun x => x.src) (fun x y => { x with src := y }) 1 := ((Fld.snd _ _).comp (Fld.fst _ _)).iso (fun _ => rfl) (fun _ _ => rfl)
theorem gWalk_at : Fld gWalk gI (fun x => x.at') (fun x y => { x with at' := y }) 2 := ((Fld.snd _ _).comp ((Fld.snd _ _).comp (Fld.fst _ _))).iso (fun _ => rfl) (fun _ _ => rfl)
theorem gWalk_state : Fld gWalk gI (fun x => x.state) (fun x y => { x with state := y }) 3 := ((Fld.snd _ _).comp ((Fld.snd _ _).comp (Fld.snd _ _))).iso (fun _ => rfl) (fun _ _ => rfl)
theorem gWalk_cnt (x : Walk) : gWalk.cnt x = 1 + (1 + (1 + (1))) := rfl
theorem gWalk_mark (k : Int) (x : Walk) : gWalk.mark k x = ⟨k, k + 1, k + 1 + 1, k + 1 + 1 + 1⟩ := by
  have h : gWalk.mark k x = ⟨k, (k + ((1 : Nat) : Int)), ((k + ((1 : Nat) : Int)) + ((1 : Nat) : Int)), (((k + ((1 : Nat) : Int)) + ((1 : Nat) : Int)) + ((1 : Nat) : Int))⟩ := rfl
  rw [h] <;> simp
theorem Walk.eq_iff {x y : Walk} : x = y ↔ x.atom = y.atom ∧ x.src = y.src ∧ x.at' = y.at' ∧ x.state = y.state := by cases x; cases y; simp
--@gt impl.Walk | gWalk | default | obtain ⟨rfl, w0x#, w1x#, w2x#, w3x#⟩ := gWalk_rd.1 hl# | 0 1 pr gWalk_atom ; 1 1 pr gWalk_src ; 2 1 pr gWalk_at ; 3 1 pr gWalk_state | 4 | gWalk_own ‹_›
structure Letter where
  kind : Int
  atom : Int
  num : Int
  black : Bool
  walks : List Walk
  text : ByteArray
deriving DecidableEq, Inhabited
def gLetter : Gt Letter := gIso (SX.gPair gI (SX.gPair gI (SX.gPair gI (SX.gPair gB (SX.gPair (gSl 184 gWalk) gS))))) (fun x => (x.kind, (x.atom, (x.num, (x.black, (x.walks, x.text)))))) (fun p => ⟨p.1, p.2.1, p.2.2.1, p.2.2.2.1, p.2.2.2.2.1, p.2.2.2.2.2⟩)
theorem gLetter_rd {H : Hp} {l : List Value} {x : Letter} : gLetter.rd H l x ↔ ∃ (b4 : Option Addr) (c4 : Nat), l = .int .i64 x.kind :: .int .i64 x.atom :: .int .i64 x.num :: .bool x.black :: .slice b4 x.walks.length c4 :: .string x.text :: [] ∧ okI x.kind ∧ okI x.atom ∧ okI x.num ∧ (gSl 184 gWalk).rd H [.slice b4 x.walks.length c4] x.walks ∧ x.text.size ≤ 9223372036854775807 := by
  constructor
  · rintro ⟨m0, q0, rfl, h0, m1, q1, rfl, h1, m2, q2, rfl, h2, m3, q3, rfl, h3, m4, q4, rfl, h4, h5⟩
    obtain ⟨rfl, w0⟩ := h0
    obtain ⟨rfl, w1⟩ := h1
    obtain ⟨rfl, w2⟩ := h2
    obtain ⟨rfl, w3⟩ := h3
    obtain ⟨b4, c4, rfl, h4⟩ := sl_rd h4
    obtain ⟨rfl, w5⟩ := h5
    exact ⟨b4, c4, rfl, w0, w1, w2, h4, w5⟩
  rintro ⟨b4, c4, rfl, w0, w1, w2, h4, w5⟩
  exact ⟨[.int .i64 x.kind], .int .i64 x.atom :: .int .i64 x.num :: .bool x.black :: .slice b4 x.walks.length c4 :: .string x.text :: [], rfl, ⟨rfl, w0⟩, ⟨[.int .i64 x.atom], .int .i64 x.num :: .bool x.black :: .slice b4 x.walks.length c4 :: .string x.text :: [], rfl, ⟨rfl, w1⟩, ⟨[.int .i64 x.num], .bool x.black :: .slice b4 x.walks.length c4 :: .string x.text :: [], rfl, ⟨rfl, w2⟩, ⟨[.bool x.black], .slice b4 x.walks.length c4 :: .string x.text :: [], rfl, ⟨rfl, trivial⟩, ⟨[.slice b4 x.walks.length c4], [.string x.text], rfl, h4, ⟨rfl, w5⟩⟩⟩⟩⟩⟩
open Classical in
theorem gLetter_ow {A : Hp} {l : List Value} {x : Letter} : gLetter.ow l x A ↔ ∃ (b4 : Option Addr) (c4 : Nat) (A4 : Hp), l = .int .i64 x.kind :: .int .i64 x.atom :: .int .i64 x.num :: .bool x.black :: .slice b4 x.walks.length c4 :: .string x.text :: [] ∧ A.Perm A4 ∧ okI x.kind ∧ okI x.atom ∧ okI x.num ∧ (gSl 184 gWalk).ow [.slice b4 x.walks.length c4] x.walks A4 ∧ x.text.size ≤ 9223372036854775807 := by
  constructor
  · rintro ⟨m0, q0, D0, E0, rfl, p0, h0, m1, q1, D1, E1, rfl, p1, h1, m2, q2, D2, E2, rfl, p2, h2, m3, q3, D3, E3, rfl, p3, h3, m4, q4, D4, E4, rfl, p4, h4, h5⟩
    obtain ⟨rfl, w0, e0⟩ := h0
    subst e0
    obtain ⟨rfl, w1, e1⟩ := h1
    subst e1
    obtain ⟨rfl, w2, e2⟩ := h2
    subst e2
    obtain ⟨rfl, w3, e3⟩ := h3
    subst e3
    obtain ⟨b4, c4, rfl, h4⟩ := sl_ow h4
    obtain ⟨rfl, w5, e5⟩ := h5
    subst e5
    exact ⟨b4, c4, D4, rfl, (perm_cnt fun a => by have e0 := p0.count_eq a; have e1 := p1.count_eq a; have e2 := p2.count_eq a; have e3 := p3.count_eq a; have e4 := p4.count_eq a; simp only [List.count_append, List.count_nil] at *; omega), w0, w1, w2, h4, w5⟩
  rintro ⟨b4, c4, A4, rfl, hp, w0, w1, w2, h4, w5⟩
  exact ⟨[.int .i64 x.kind], .int .i64 x.atom :: .int .i64 x.num :: .bool x.black :: .slice b4 x.walks.length c4 :: .string x.text :: [], [], ([] ++ ([] ++ ([] ++ (A4 ++ [])))), rfl, (perm_cnt fun a => by have e := hp.count_eq a; simp only [List.count_append, List.count_nil] at *; omega), ⟨rfl, w0, rfl⟩, ⟨[.int .i64 x.atom], .int .i64 x.num :: .bool x.black :: .slice b4 x.walks.length c4 :: .string x.text :: [], [], ([] ++ ([] ++ (A4 ++ []))), rfl, .refl _, ⟨rfl, w1, rfl⟩, ⟨[.int .i64 x.num], .bool x.black :: .slice b4 x.walks.length c4 :: .string x.text :: [], [], ([] ++ (A4 ++ [])), rfl, .refl _, ⟨rfl, w2, rfl⟩, ⟨[.bool x.black], .slice b4 x.walks.length c4 :: .string x.text :: [], [], (A4 ++ []), rfl, .refl _, ⟨rfl, trivial, rfl⟩, ⟨[.slice b4 x.walks.length c4], [.string x.text], A4, [], rfl, .refl _, h4, ⟨rfl, w5, rfl⟩⟩⟩⟩⟩⟩
theorem gLetter_kind : Fld gLetter gI (fun x => x.kind) (fun x y => { x with kind := y }) 0 := (Fld.fst _ _).iso (fun _ => rfl) (fun _ _ => rfl)
theorem gLetter_atom : Fld gLetter gI (fun x => x.atom) (fun x y => { x with atom := y }) 1 := ((Fld.snd _ _).comp (Fld.fst _ _)).iso (fun _ => rfl) (fun _ _ => rfl)
theorem gLetter_num : Fld gLetter gI (fun x => x.num) (fun x y => { x with num := y }) 2 := ((Fld.snd _ _).comp ((Fld.snd _ _).comp (Fld.fst _ _))).iso (fun _ => rfl) (fun _ _ => rfl)
theorem gLetter_black : Fld gLetter gB (fun x => x.black) (fun x y => { x with black := y }) 3 := ((Fld.snd _ _).comp ((Fld.snd _ _).comp ((Fld.snd _ _).comp (Fld.fst _ _)))).iso (fun _ => rfl) (fun _ _ => rfl)
theorem gLetter_walks : Fld gLetter (gSl 184 gWalk) (fun x => x.walks) (fun x y => { x with walks := y }) 4 := ((Fld.snd _ _).comp ((Fld.snd _ _).comp ((Fld.snd _ _).comp ((Fld.snd _ _).comp (Fld.fst _ _))))).iso (fun _ => rfl) (fun _ _ => rfl)
theorem gLetter_text : Fld gLetter gS (fun x => x.text) (fun x y => { x with text := y }) 5 := ((Fld.snd _ _).comp ((Fld.snd _ _).comp ((Fld.snd _ _).comp ((Fld.snd _ _).comp (Fld.snd _ _))))).iso (fun _ => rfl) (fun _ _ => rfl)
theorem gLetter_sz (x : Letter) : gLetter.sz x = 0 + (0 + (0 + (0 + (szL gWalk x.walks + (x.text.size))))) := rfl
theorem gLetter_cnt (x : Letter) : gLetter.cnt x = 1 + (1 + (1 + (1 + (cntL gWalk x.walks + (1))))) := rfl
theorem gLetter_mark (k : Int) (x : Letter) : gLetter.mark k x = ⟨k, k + 1, k + 1 + 1, (k + 1 + 1 + 1).tmod 3 == 0, mkL gWalk (k + 1 + 1 + 1 + 1) x.walks, mtx (k + 1 + 1 + 1 + 1 + cntL gWalk x.walks)⟩ := by
  have h : gLetter.mark k x = ⟨k, (k + ((1 : Nat) : Int)), ((k + ((1 : Nat) : Int)) + ((1 : Nat) : Int)), ((((k + ((1 : Nat) : Int)) + ((1 : Nat) : Int)) + ((1 : Nat) : Int))).tmod 3 == 0, mkL gWalk (((((k + ((1 : Nat) : Int)) + ((1 : Nat) : Int)) + ((1 : Nat) : Int)) + ((1 : Nat) : Int))) x.walks, mtx ((((((k + ((1 : Nat) : Int)) + ((1 : Nat) : Int)) + ((1 : Nat) : Int)) + ((1 : Nat) : Int)) + ((cntL gWalk x.walks : Nat) : Int)))⟩ := rfl
  rw [h] <;> simp
theorem Letter.eq_iff {x y : Letter} : x = y ↔ x.kind = y.kind ∧ x.atom = y.atom ∧ x.num = y.num ∧ x.black = y.black ∧ x.walks = y.walks ∧ x.text = y.text := by cases x; cases y; simp
--@gt impl.Letter | gLetter | default | obtain ⟨b4x#, c4x#, rfl, w0x#, w1x#, w2x#, h4x#, w5x#⟩ := gLetter_rd.1 hl# | 0 1 pr gLetter_kind ; 1 1 pr gLetter_atom ; 2 1 pr gLetter_num ; 3 1 pr gLetter_black ; 4 1 sl gLetter_walks ; 5 1 pr gLetter_text | 6 | 
structure Link where
  sent : List ByteArray
  acked : Int
  took : Int
deriving DecidableEq, Inhabited
theorem Link.eq_iff {x y : Link} : x = y ↔ x.sent = y.sent ∧ x.acked = y.acked ∧ x.took = y.took := by cases x; cases y; simp
--@gt impl.Link | gLink | default | obtain ⟨b0x#, c0x#, rfl, h0x#, w1x#, w2x#⟩ := gLink_rd.1 hl# | 0 1 sl gLink_sent ; 1 1 pr gLink_acked ; 2 1 pr gLink_took | 3 | 
structure Got where
  from' : Int
  atom : Int
  bag : Bag
deriving DecidableEq, Inhabited
def gGot : Gt Got := gIso (SX.gPair gI (SX.gPair gI gBag)) (fun x => (x.from', (x.atom, x.bag))) (fun p => ⟨p.1, p.2.1, p.2.2⟩)
theorem gGot_rd {H : Hp} {l : List Value} {x : Got} : gGot.rd H l x ↔ ∃ (l2 : List Value), l = .int .i64 x.from' :: .int .i64 x.atom :: l2 ++ ([]) ∧ okI x.from' ∧ okI x.atom ∧ gBag.rd H l2 x.bag := by
  constructor
  · rintro ⟨m0, q0, rfl, h0, m1, q1, rfl, h1, h2⟩
    obtain ⟨rfl, w0⟩ := h0
    obtain ⟨rfl, w1⟩ := h1
    exact ⟨q1, (by simp [flInt, flBool, flByte, flStr]), w0, w1, h2⟩
  rintro ⟨l2, rfl, w0, w1, h2⟩
  exact ⟨[.int .i64 x.from'], .int .i64 x.atom :: l2 ++ ([]), rfl, ⟨rfl, w0⟩, ⟨[.int .i64 x.atom], l2, (by simp [flInt, flBool, flByte, flStr]), ⟨rfl, w1⟩, h2⟩⟩
open Classical in
theorem gGot_ow {A : Hp} {l : List Value} {x : Got} : gGot.ow l x A ↔ ∃ (l2 : List Value) (A2 : Hp), l = .int .i64 x.from' :: .int .i64 x.atom :: l2 ++ ([]) ∧ A.Perm A2 ∧ okI x.from' ∧ okI x.atom ∧ gBag.ow l2 x.bag A2 := by
  constructor
  · rintro ⟨m0, q0, D0, E0, rfl, p0, h0, m1, q1, D1, E1, rfl, p1, h1, h2⟩
    obtain ⟨rfl, w0, e0⟩ := h0
    subst e0
    obtain ⟨rfl, w1, e1⟩ := h1
    subst e1
    exact ⟨q1, E1, (by simp [flInt, flBool, flByte, flStr]), (perm_cnt fun a => by have e0 := p0.count_eq a; have e1 := p1.count_eq a; simp only [List.count_append, List.count_nil] at *; omega), w0, w1, h2⟩
  rintro ⟨l2, A2, rfl, hp, w0, w1, h2⟩
  exact ⟨[.int .i64 x.from'], .int .i64 x.atom :: l2 ++ ([]), [], ([] ++ A2), rfl, (perm_cnt fun a => by have e := hp.count_eq a; simp only [List.count_append, List.count_nil] at *; omega), ⟨rfl, w0, rfl⟩, ⟨[.int .i64 x.atom], l2, [], A2, (by simp [flInt, flBool, flByte, flStr]), .refl _, ⟨rfl, w1, rfl⟩, h2⟩⟩
theorem opens_Got : Opens Tryz.prog gGot.toRp 178 := by
  intro H' enc w H sp hd fuel cs d ps hcov ht
  obtain ⟨h1, h2⟩ := trod_fields ty178_ok.1 ht
  obtain ⟨_, _, t0⟩ := h2 0 0 3 rfl
  obtain ⟨x0, r0⟩ := (opens_fi ty3_ok.1) _ _ H _ _ _ _ _ _ hcov t0
  rw [show Tryz.prog.cellsOf 3 = 1 by kernel_rfl] at r0
  obtain ⟨_, _, t1⟩ := h2 1 1 3 rfl
  obtain ⟨x1, r1⟩ := (opens_fi ty3_ok.1) _ _ H _ _ _ _ _ _ hcov t1
  rw [show Tryz.prog.cellsOf 3 = 1 by kernel_rfl] at r1
  obtain ⟨_, _, t2⟩ := h2 2 2 63 rfl
  obtain ⟨x2, r2⟩ := opens_Bag _ _ H _ _ _ _ _ _ hcov t2
  rw [show Tryz.prog.cellsOf 63 = 1 by kernel_rfl] at r2
  rw [show Tryz.prog.cellsOf 178 = 3 by kernel_rfl] at h1
  have key : gGot.rd H ((cs.drop 0).take 3) ⟨x0, x1, x2⟩ := (pair_at (g := gI) (h := (SX.gPair gI gBag)) (off := 0) r0 (pair_at (g := gI) (h := gBag) (off := 1) r1 r2))
  rw [List.drop_zero, List.take_of_length_le (by omega)] at key
  exact ⟨_, key⟩
def zGot : Got := ⟨0, 0, zBag⟩
theorem zGot_ow : gGot.ow [.int .i64 0, .int .i64 0, .slice none 0 0] zGot [] := gGot_ow.2 ⟨_, [], rfl, by simp, by first | (unfold okI; decide) | decide, by first | (unfold okI; decide) | decide, zBag_ow⟩
theorem gGot_from : Fld gGot gI (fun x => x.from') (fun x y => { x with from' := y }) 0 := (Fld.fst _ _).iso (fun _ => rfl) (fun _ _ => rfl)
theorem gGot_atom : Fld gGot gI (fun x => x.atom) (fun x y => { x with atom := y }) 1 := ((Fld.snd _ _).comp (Fld.fst _ _)).iso (fun _ => rfl) (fun _ _ => rfl)
theorem gGot_bag : Fld gGot gBag (fun x => x.bag) (fun x y => { x with bag := y }) 2 := ((Fld.snd _ _).comp (Fld.snd _ _)).iso (fun _ => rfl) (fun _ _ => rfl)
theorem gGot_sz (x : Got) : gGot.sz x = 0 + (0 + (gBag.sz x.bag)) := rfl
theorem gGot_cnt (x : Got) : gGot.cnt x = 1 + (1 + (gBag.cnt x.bag)) := rfl
theorem gGot_mark (k : Int) (x : Got) : gGot.mark k x = ⟨k, k + 1, gBag.mark (k + 1 + 1) x.bag⟩ := by
  have h : gGot.mark k x = ⟨k, (k + ((1 : Nat) : Int)), gBag.mark (((k + ((1 : Nat) : Int)) + ((1 : Nat) : Int))) x.bag⟩ := rfl
  rw [h] <;> simp
theorem Got.eq_iff {x y : Got} : x = y ↔ x.from' = y.from' ∧ x.atom = y.atom ∧ x.bag = y.bag := by cases x; cases y; simp
--@gt impl.Got | gGot | default | obtain ⟨l2x#, rfl, w0x#, w1x#, h2x#⟩ := gGot_rd.1 hl# ; obtain ⟨b0_2x#, c0_2x#, rfl, h0_2x#⟩ := gBag_rd.1 h2x# | 0 1 pr gGot_from ; 1 1 pr gGot_atom ; 2 1 st gGot_bag ; 2 1 sl gGot_bag_items | 3 | 
structure Cell where
  query : Query
  shares : List Int
  at' : Int
  n : Int
  gots : List Got
deriving DecidableEq, Inhabited
theorem Cell.eq_iff {x y : Cell} : x = y ↔ x.query = y.query ∧ x.shares = y.shares ∧ x.at' = y.at' ∧ x.n = y.n ∧ x.gots = y.gots := by cases x; cases y; simp
--@gt impl.Cell | gCell | default | obtain ⟨l0x#, b1x#, c1x#, b4x#, c4x#, rfl, h0x#, h1x#, w2x#, w3x#, h4x#⟩ := gCell_rd.1 hl# ; obtain ⟨b1_0x#, c1_0x#, b2_0x#, c2_0x#, b3_0x#, c3_0x#, rfl, h1_0x#, h2_0x#, h3_0x#⟩ := gQuery_rd.1 h0x# | 0 4 st gCell_query ; 0 1 pr gCell_query_each ; 1 1 sl gCell_query_out ; 2 1 sl gCell_query_atoms ; 3 1 sl gCell_query_filters ; 4 1 sl gCell_shares ; 5 1 pr gCell_at ; 6 1 pr gCell_n ; 7 1 sl gCell_gots | 8 | 
structure Mail where
  peer : Int
  letter : Letter
deriving DecidableEq, Inhabited
def gMail : Gt Mail := gIso (SX.gPair gI gLetter) (fun x => (x.peer, x.letter)) (fun p => ⟨p.1, p.2⟩)
theorem gMail_rd {H : Hp} {l : List Value} {x : Mail} : gMail.rd H l x ↔ ∃ (l1 : List Value), l = .int .i64 x.peer :: l1 ++ ([]) ∧ okI x.peer ∧ gLetter.rd H l1 x.letter := by
  constructor
  · rintro ⟨m0, q0, rfl, h0, h1⟩
    obtain ⟨rfl, w0⟩ := h0
    exact ⟨q0, (by simp [flInt, flBool, flByte, flStr]), w0, h1⟩
  rintro ⟨l1, rfl, w0, h1⟩
  exact ⟨[.int .i64 x.peer], l1, (by simp [flInt, flBool, flByte, flStr]), ⟨rfl, w0⟩, h1⟩
open Classical in
theorem gMail_ow {A : Hp} {l : List Value} {x : Mail} : gMail.ow l x A ↔ ∃ (l1 : List Value) (A1 : Hp), l = .int .i64 x.peer :: l1 ++ ([]) ∧ A.Perm A1 ∧ okI x.peer ∧ gLetter.ow l1 x.letter A1 := by
  constructor
  · rintro ⟨m0, q0, D0, E0, rfl, p0, h0, h1⟩
    obtain ⟨rfl, w0, e0⟩ := h0
    subst e0
    exact ⟨q0, E0, (by simp [flInt, flBool, flByte, flStr]), (perm_cnt fun a => by have e0 := p0.count_eq a; simp only [List.count_append, List.count_nil] at *; omega), w0, h1⟩
  rintro ⟨l1, A1, rfl, hp, w0, h1⟩
  exact ⟨[.int .i64 x.peer], l1, [], A1, (by simp [flInt, flBool, flByte, flStr]), (perm_cnt fun a => by have e := hp.count_eq a; simp only [List.count_append, List.count_nil] at *; omega), ⟨rfl, w0, rfl⟩, h1⟩
theorem gMail_peer : Fld gMail gI (fun x => x.peer) (fun x y => { x with peer := y }) 0 := (Fld.fst _ _).iso (fun _ => rfl) (fun _ _ => rfl)
theorem gMail_letter : Fld gMail gLetter (fun x => x.letter) (fun x y => { x with letter := y }) 1 := (Fld.snd _ _).iso (fun _ => rfl) (fun _ _ => rfl)
theorem gMail_letter_kind : Fld gMail gI (fun x => x.letter.kind) (fun x y => { x with letter.kind := y }) 1 := gMail_letter.comp gLetter_kind
theorem gMail_letter_atom : Fld gMail gI (fun x => x.letter.atom) (fun x y => { x with letter.atom := y }) 2 := gMail_letter.comp gLetter_atom
theorem gMail_letter_num : Fld gMail gI (fun x => x.letter.num) (fun x y => { x with letter.num := y }) 3 := gMail_letter.comp gLetter_num
theorem gMail_letter_black : Fld gMail gB (fun x => x.letter.black) (fun x y => { x with letter.black := y }) 4 := gMail_letter.comp gLetter_black
theorem gMail_letter_walks : Fld gMail (gSl 184 gWalk) (fun x => x.letter.walks) (fun x y => { x with letter.walks := y }) 5 := gMail_letter.comp gLetter_walks
theorem gMail_letter_text : Fld gMail gS (fun x => x.letter.text) (fun x y => { x with letter.text := y }) 6 := gMail_letter.comp gLetter_text
theorem gMail_sz (x : Mail) : gMail.sz x = 0 + (gLetter.sz x.letter) := rfl
theorem gMail_cnt (x : Mail) : gMail.cnt x = 1 + (gLetter.cnt x.letter) := rfl
theorem gMail_mark (k : Int) (x : Mail) : gMail.mark k x = ⟨k, gLetter.mark (k + 1) x.letter⟩ := by
  have h : gMail.mark k x = ⟨k, gLetter.mark ((k + ((1 : Nat) : Int))) x.letter⟩ := rfl
  rw [h] <;> simp
theorem Mail.eq_iff {x y : Mail} : x = y ↔ x.peer = y.peer ∧ x.letter = y.letter := by cases x; cases y; simp
--@gt impl.Mail | gMail | default | obtain ⟨l1x#, rfl, w0x#, h1x#⟩ := gMail_rd.1 hl# ; obtain ⟨b4_1x#, c4_1x#, rfl, w0_1x#, w1_1x#, w2_1x#, h4_1x#, w5_1x#⟩ := gLetter_rd.1 h1x# | 0 1 pr gMail_peer ; 1 6 st gMail_letter ; 1 1 pr gMail_letter_kind ; 2 1 pr gMail_letter_atom ; 3 1 pr gMail_letter_num ; 4 1 pr gMail_letter_black ; 5 1 sl gMail_letter_walks ; 6 1 pr gMail_letter_text | 7 | 
structure Work where
  begun : Bool
  query : Query
  shares : List Int
  count : Int
  seen : List Walk
  num : Int
  black : Bool
  holds : Bool
  tokNum : Int
  tokBlack : Bool
  walked : Bool
  cell : Cell
  told : Bool
  waits : List Mail
deriving DecidableEq, Inhabited
theorem Work.eq_iff {x y : Work} : x = y ↔ x.begun = y.begun ∧ x.query = y.query ∧ x.shares = y.shares ∧ x.count = y.count ∧ x.seen = y.seen ∧ x.num = y.num ∧ x.black = y.black ∧ x.holds = y.holds ∧ x.tokNum = y.tokNum ∧ x.tokBlack = y.tokBlack ∧ x.walked = y.walked ∧ x.cell = y.cell ∧ x.told = y.told ∧ x.waits = y.waits := by cases x; cases y; simp
--@gt impl.Work | gWork | default | obtain ⟨l1x#, b2x#, c2x#, b4x#, c4x#, l11x#, b13x#, c13x#, rfl, h1x#, h2x#, w3x#, h4x#, w5x#, w8x#, h11x#, h13x#⟩ := gWork_rd.1 hl# ; obtain ⟨b1_1x#, c1_1x#, b2_1x#, c2_1x#, b3_1x#, c3_1x#, rfl, h1_1x#, h2_1x#, h3_1x#⟩ := gQuery_rd.1 h1x# ; obtain ⟨l0_11x#, b1_11x#, c1_11x#, b4_11x#, c4_11x#, rfl, h0_11x#, h1_11x#, w2_11x#, w3_11x#, h4_11x#⟩ := gCell_rd.1 h11x# ; obtain ⟨b1_0_11x#, c1_0_11x#, b2_0_11x#, c2_0_11x#, b3_0_11x#, c3_0_11x#, rfl, h1_0_11x#, h2_0_11x#, h3_0_11x#⟩ := gQuery_rd.1 h0_11x# | 0 1 pr gWork_begun ; 1 4 st gWork_query ; 1 1 pr gWork_query_each ; 2 1 sl gWork_query_out ; 3 1 sl gWork_query_atoms ; 4 1 sl gWork_query_filters ; 5 1 sl gWork_shares ; 6 1 pr gWork_count ; 7 1 sl gWork_seen ; 8 1 pr gWork_num ; 9 1 pr gWork_black ; 10 1 pr gWork_holds ; 11 1 pr gWork_tokNum ; 12 1 pr gWork_tokBlack ; 13 1 pr gWork_walked ; 14 8 st gWork_cell ; 14 4 st gWork_cell_query ; 14 1 pr gWork_cell_query_each ; 15 1 sl gWork_cell_query_out ; 16 1 sl gWork_cell_query_atoms ; 17 1 sl gWork_cell_query_filters ; 18 1 sl gWork_cell_shares ; 19 1 pr gWork_cell_at ; 20 1 pr gWork_cell_n ; 21 1 sl gWork_cell_gots ; 22 1 pr gWork_told ; 23 1 sl gWork_waits | 24 | 
structure Ask where
  on : Bool
  query : Query
  shares : List Int
  count : Int
  results : List Got
  over : Bool
  answer : Bag
deriving DecidableEq, Inhabited
def gAsk : Gt Ask := gIso (SX.gPair gB (SX.gPair gQuery (SX.gPair (gSl 3 gI) (SX.gPair gI (SX.gPair (gSl 171 gGot) (SX.gPair gB gBag)))))) (fun x => (x.on, (x.query, (x.shares, (x.count, (x.results, (x.over, x.answer))))))) (fun p => ⟨p.1, p.2.1, p.2.2.1, p.2.2.2.1, p.2.2.2.2.1, p.2.2.2.2.2.1, p.2.2.2.2.2.2⟩)
theorem gAsk_rd {H : Hp} {l : List Value} {x : Ask} : gAsk.rd H l x ↔ ∃ (l1 : List Value) (b2 : Option Addr) (c2 : Nat) (b4 : Option Addr) (c4 : Nat) (l6 : List Value), l = .bool x.on :: l1 ++ (.slice b2 x.shares.length c2 :: .int .i64 x.count :: .slice b4 x.results.length c4 :: .bool x.over :: l6 ++ ([])) ∧ gQuery.rd H l1 x.query ∧ (gSl 3 gI).rd H [.slice b2 x.shares.length c2] x.shares ∧ okI x.count ∧ (gSl 171 gGot).rd H [.slice b4 x.results.length c4] x.results ∧ gBag.rd H l6 x.answer := by
  constructor
  · rintro ⟨m0, q0, rfl, h0, m1, q1, rfl, h1, m2, q2, rfl, h2, m3, q3, rfl, h3, m4, q4, rfl, h4, m5, q5, rfl, h5, h6⟩
    obtain ⟨rfl, w0⟩ := h0
    obtain ⟨b2, c2, rfl, h2⟩ := sl_rd h2
    obtain ⟨rfl, w3⟩ := h3
    obtain ⟨b4, c4, rfl, h4⟩ := sl_rd h4
    obtain ⟨rfl, w5⟩ := h5
    exact ⟨m1, b2, c2, b4, c4, q5, (by simp [flInt, flBool, flByte, flStr]), h1, h2, w3, h4, h6⟩
  rintro ⟨l1, b2, c2, b4, c4, l6, rfl, h1, h2, w3, h4, h6⟩
  exact ⟨[.bool x.on], l1 ++ (.slice b2 x.shares.length c2 :: .int .i64 x.count :: .slice b4 x.results.length c4 :: .bool x.over :: l6 ++ ([])), rfl, ⟨rfl, trivial⟩, ⟨l1, .slice b2 x.shares.length c2 :: .int .i64 x.count :: .slice b4 x.results.length c4 :: .bool x.over :: l6 ++ ([]), rfl, h1, ⟨[.slice b2 x.shares.length c2], .int .i64 x.count :: .slice b4 x.results.length c4 :: .bool x.over :: l6 ++ ([]), rfl, h2, ⟨[.int .i64 x.count], .slice b4 x.results.length c4 :: .bool x.over :: l6 ++ ([]), rfl, ⟨rfl, w3⟩, ⟨[.slice b4 x.results.length c4], .bool x.over :: l6 ++ ([]), rfl, h4, ⟨[.bool x.over], l6, (by simp [flInt, flBool, flByte, flStr]), ⟨rfl, trivial⟩, h6⟩⟩⟩⟩⟩⟩
open Classical in
theorem gAsk_ow {A : Hp} {l : List Value} {x : Ask} : gAsk.ow l x A ↔ ∃ (l1 : List Value) (A1 : Hp) (b2 : Option Addr) (c2 : Nat) (A2 : Hp) (b4 : Option Addr) (c4 : Nat) (A4 : Hp) (l6 : List Value) (A6 : Hp), l = .bool x.on :: l1 ++ (.slice b2 x.shares.length c2 :: .int .i64 x.count :: .slice b4 x.results.length c4 :: .bool x.over :: l6 ++ ([])) ∧ A.Perm (A1 ++ (A2 ++ (A4 ++ A6))) ∧ gQuery.ow l1 x.query A1 ∧ (gSl 3 gI).ow [.slice b2 x.shares.length c2] x.shares A2 ∧ okI x.count ∧ (gSl 171 gGot).ow [.slice b4 x.results.length c4] x.results A4 ∧ gBag.ow l6 x.answer A6 := by
  constructor
  · rintro ⟨m0, q0, D0, E0, rfl, p0, h0, m1, q1, D1, E1, rfl, p1, h1, m2, q2, D2, E2, rfl, p2, h2, m3, q3, D3, E3, rfl, p3, h3, m4, q4, D4, E4, rfl, p4, h4, m5, q5, D5, E5, rfl, p5, h5, h6⟩
    obtain ⟨rfl, w0, e0⟩ := h0
    subst e0
    obtain ⟨b2, c2, rfl, h2⟩ := sl_ow h2
    obtain ⟨rfl, w3, e3⟩ := h3
    subst e3
    obtain ⟨b4, c4, rfl, h4⟩ := sl_ow h4
    obtain ⟨rfl, w5, e5⟩ := h5
    subst e5
    exact ⟨m1, D1, b2, c2, D2, b4, c4, D4, q5, E5, (by simp [flInt, flBool, flByte, flStr]), (perm_cnt fun a => by have e0 := p0.count_eq a; have e1 := p1.count_eq a; have e2 := p2.count_eq a; have e3 := p3.count_eq a; have e4 := p4.count_eq a; have e5 := p5.count_eq a; simp only [List.count_append, List.count_nil] at *; omega), h1, h2, w3, h4, h6⟩
  rintro ⟨l1, A1, b2, c2, A2, b4, c4, A4, l6, A6, rfl, hp, h1, h2, w3, h4, h6⟩
  exact ⟨[.bool x.on], l1 ++ (.slice b2 x.shares.length c2 :: .int .i64 x.count :: .slice b4 x.results.length c4 :: .bool x.over :: l6 ++ ([])), [], (A1 ++ (A2 ++ ([] ++ (A4 ++ ([] ++ A6))))), rfl, (perm_cnt fun a => by have e := hp.count_eq a; simp only [List.count_append, List.count_nil] at *; omega), ⟨rfl, trivial, rfl⟩, ⟨l1, .slice b2 x.shares.length c2 :: .int .i64 x.count :: .slice b4 x.results.length c4 :: .bool x.over :: l6 ++ ([]), A1, (A2 ++ ([] ++ (A4 ++ ([] ++ A6)))), rfl, .refl _, h1, ⟨[.slice b2 x.shares.length c2], .int .i64 x.count :: .slice b4 x.results.length c4 :: .bool x.over :: l6 ++ ([]), A2, ([] ++ (A4 ++ ([] ++ A6))), rfl, .refl _, h2, ⟨[.int .i64 x.count], .slice b4 x.results.length c4 :: .bool x.over :: l6 ++ ([]), [], (A4 ++ ([] ++ A6)), rfl, .refl _, ⟨rfl, w3, rfl⟩, ⟨[.slice b4 x.results.length c4], .bool x.over :: l6 ++ ([]), A4, ([] ++ A6), rfl, .refl _, h4, ⟨[.bool x.over], l6, [], A6, (by simp [flInt, flBool, flByte, flStr]), .refl _, ⟨rfl, trivial, rfl⟩, h6⟩⟩⟩⟩⟩⟩
theorem opens_Ask : Opens Tryz.prog gAsk.toRp 65 := by
  intro H' enc w H sp hd fuel cs d ps hcov ht
  obtain ⟨h1, h2⟩ := trod_fields ty65_ok.1 ht
  obtain ⟨_, _, t0⟩ := h2 0 0 4 rfl
  obtain ⟨x0, r0⟩ := (opens_fb ty4_ok.1) _ _ H _ _ _ _ _ _ hcov t0
  rw [show Tryz.prog.cellsOf 4 = 1 by kernel_rfl] at r0
  obtain ⟨_, _, t1⟩ := h2 1 1 26 rfl
  obtain ⟨x1, r1⟩ := opens_Query _ _ H _ _ _ _ _ _ hcov t1
  rw [show Tryz.prog.cellsOf 26 = 4 by kernel_rfl] at r1
  obtain ⟨_, _, t2⟩ := h2 2 5 28 rfl
  obtain ⟨x2, r2⟩ := (opens_sl ty28_ok.1 (by kernel_rfl) (by decide) (opens_fi ty3_ok.1)) _ _ H _ _ _ _ _ _ hcov t2
  rw [show Tryz.prog.cellsOf 28 = 1 by kernel_rfl] at r2
  obtain ⟨_, _, t3⟩ := h2 3 6 3 rfl
  obtain ⟨x3, r3⟩ := (opens_fi ty3_ok.1) _ _ H _ _ _ _ _ _ hcov t3
  rw [show Tryz.prog.cellsOf 3 = 1 by kernel_rfl] at r3
  obtain ⟨_, _, t4⟩ := h2 4 7 60 rfl
  obtain ⟨x4, r4⟩ := (opens_sl ty60_ok.1 (by kernel_rfl) (by decide) opens_Got) _ _ H _ _ _ _ _ _ hcov t4
  rw [show Tryz.prog.cellsOf 60 = 1 by kernel_rfl] at r4
  obtain ⟨_, _, t5⟩ := h2 5 8 4 rfl
  obtain ⟨x5, r5⟩ := (opens_fb ty4_ok.1) _ _ H _ _ _ _ _ _ hcov t5
  rw [show Tryz.prog.cellsOf 4 = 1 by kernel_rfl] at r5
  obtain ⟨_, _, t6⟩ := h2 6 9 63 rfl
  obtain ⟨x6, r6⟩ := opens_Bag _ _ H _ _ _ _ _ _ hcov t6
  rw [show Tryz.prog.cellsOf 63 = 1 by kernel_rfl] at r6
  rw [show Tryz.prog.cellsOf 65 = 10 by kernel_rfl] at h1
  have key : gAsk.rd H ((cs.drop 0).take 10) ⟨x0, x1, x2, x3, x4, x5, x6⟩ := (pair_at (g := gB) (h := (SX.gPair gQuery (SX.gPair (gSl 3 gI) (SX.gPair gI (SX.gPair (gSl 171 gGot) (SX.gPair gB gBag)))))) (off := 0) r0 (pair_at (g := gQuery) (h := (SX.gPair (gSl 3 gI) (SX.gPair gI (SX.gPair (gSl 171 gGot) (SX.gPair gB gBag))))) (off := 1) r1 (pair_at (g := (gSl 3 gI)) (h := (SX.gPair gI (SX.gPair (gSl 171 gGot) (SX.gPair gB gBag)))) (off := 5) r2 (pair_at (g := gI) (h := (SX.gPair (gSl 171 gGot) (SX.gPair gB gBag))) (off := 6) r3 (pair_at (g := (gSl 171 gGot)) (h := (SX.gPair gB gBag)) (off := 7) r4 (pair_at (g := gB) (h := gBag) (off := 8) r5 r6))))))
  rw [List.drop_zero, List.take_of_length_le (by omega)] at key
  exact ⟨_, key⟩
theorem gAsk_sz (x : Ask) : gAsk.sz x = 0 + (gQuery.sz x.query + (szL gI x.shares + (0 + (szL gGot x.results + (0 + (gBag.sz x.answer)))))) := rfl
theorem gAsk_cntV (x : Ask) : gAsk.cntV x = 0 + (gQuery.cntV x.query + (cntL gI x.shares + (0 + (cntL gGot x.results + (0 + (gBag.cntV x.answer)))))) := rfl
theorem gAsk_markV (k : Int) (x : Ask) : gAsk.markV k x = ⟨x.on, gQuery.markV (k) x.query, mkL gI (k + gQuery.cntV x.query) x.shares, x.count, mkL gGot (k + gQuery.cntV x.query + cntL gI x.shares) x.results, x.over, gBag.markV (k + gQuery.cntV x.query + cntL gI x.shares + cntL gGot x.results) x.answer⟩ := by
  have h : gAsk.markV k x = ⟨x.on, gQuery.markV ((k + ((0 : Nat) : Int))) x.query, mkL gI (((k + ((0 : Nat) : Int)) + ((gQuery.cntV x.query : Nat) : Int))) x.shares, x.count, mkL gGot (((((k + ((0 : Nat) : Int)) + ((gQuery.cntV x.query : Nat) : Int)) + ((cntL gI x.shares : Nat) : Int)) + ((0 : Nat) : Int))) x.results, x.over, gBag.markV (((((((k + ((0 : Nat) : Int)) + ((gQuery.cntV x.query : Nat) : Int)) + ((cntL gI x.shares : Nat) : Int)) + ((0 : Nat) : Int)) + ((cntL gGot x.results : Nat) : Int)) + ((0 : Nat) : Int))) x.answer⟩ := rfl
  rw [h] <;> simp
theorem Ask.eq_iff {x y : Ask} : x = y ↔ x.on = y.on ∧ x.query = y.query ∧ x.shares = y.shares ∧ x.count = y.count ∧ x.results = y.results ∧ x.over = y.over ∧ x.answer = y.answer := by cases x; cases y; simp
--@gt impl.Ask | gAsk | default | obtain ⟨l1x#, b2x#, c2x#, b4x#, c4x#, l6x#, rfl, h1x#, h2x#, w3x#, h4x#, h6x#⟩ := gAsk_rd.1 hl# ; obtain ⟨b1_1x#, c1_1x#, b2_1x#, c2_1x#, b3_1x#, c3_1x#, rfl, h1_1x#, h2_1x#, h3_1x#⟩ := gQuery_rd.1 h1x# ; obtain ⟨b0_6x#, c0_6x#, rfl, h0_6x#⟩ := gBag_rd.1 h6x# | 0 1 pr gAsk_on ; 1 4 st gAsk_query ; 1 1 pr gAsk_query_each ; 2 1 sl gAsk_query_out ; 3 1 sl gAsk_query_atoms ; 4 1 sl gAsk_query_filters ; 5 1 sl gAsk_shares ; 6 1 pr gAsk_count ; 7 1 sl gAsk_results ; 8 1 pr gAsk_over ; 9 1 st gAsk_answer ; 9 1 sl gAsk_answer_items | 10 | 
structure Node where
  id : Int
  up : Bool
  disk : Disk
  epoch : Int
  joined : Bool
  links : List Link
  work : Work
  ask : Ask
deriving DecidableEq, Inhabited
theorem Node.eq_iff {x y : Node} : x = y ↔ x.id = y.id ∧ x.up = y.up ∧ x.disk = y.disk ∧ x.epoch = y.epoch ∧ x.joined = y.joined ∧ x.links = y.links ∧ x.work = y.work ∧ x.ask = y.ask := by cases x; cases y; simp
--@gt impl.Node | gNode | default | obtain ⟨l2x#, b5x#, c5x#, l6x#, l7x#, rfl, w0x#, h2x#, w3x#, h5x#, h6x#, h7x#⟩ := gNode_rd.1 hl# ; obtain ⟨b0_2x#, c0_2x#, rfl, h0_2x#⟩ := gDisk_rd.1 h2x# ; obtain ⟨l1_6x#, b2_6x#, c2_6x#, b4_6x#, c4_6x#, l11_6x#, b13_6x#, c13_6x#, rfl, h1_6x#, h2_6x#, w3_6x#, h4_6x#, w5_6x#, w8_6x#, h11_6x#, h13_6x#⟩ := gWork_rd.1 h6x# ; obtain ⟨b1_1_6x#, c1_1_6x#, b2_1_6x#, c2_1_6x#, b3_1_6x#, c3_1_6x#, rfl, h1_1_6x#, h2_1_6x#, h3_1_6x#⟩ := gQuery_rd.1 h1_6x# ; obtain ⟨l0_11_6x#, b1_11_6x#, c1_11_6x#, b4_11_6x#, c4_11_6x#, rfl, h0_11_6x#, h1_11_6x#, w2_11_6x#, w3_11_6x#, h4_11_6x#⟩ := gCell_rd.1 h11_6x# ; obtain ⟨b1_0_11_6x#, c1_0_11_6x#, b2_0_11_6x#, c2_0_11_6x#, b3_0_11_6x#, c3_0_11_6x#, rfl, h1_0_11_6x#, h2_0_11_6x#, h3_0_11_6x#⟩ := gQuery_rd.1 h0_11_6x# ; obtain ⟨l1_7x#, b2_7x#, c2_7x#, b4_7x#, c4_7x#, l6_7x#, rfl, h1_7x#, h2_7x#, w3_7x#, h4_7x#, h6_7x#⟩ := gAsk_rd.1 h7x# ; obtain ⟨b1_1_7x#, c1_1_7x#, b2_1_7x#, c2_1_7x#, b3_1_7x#, c3_1_7x#, rfl, h1_1_7x#, h2_1_7x#, h3_1_7x#⟩ := gQuery_rd.1 h1_7x# ; obtain ⟨b0_6_7x#, c0_6_7x#, rfl, h0_6_7x#⟩ := gBag_rd.1 h6_7x# | 0 1 pr gNode_id ; 1 1 pr gNode_up ; 2 1 st gNode_disk ; 2 1 sl gNode_disk_files ; 3 1 pr gNode_epoch ; 4 1 pr gNode_joined ; 5 1 sl gNode_links ; 6 24 st gNode_work ; 6 1 pr gNode_work_begun ; 7 4 st gNode_work_query ; 7 1 pr gNode_work_query_each ; 8 1 sl gNode_work_query_out ; 9 1 sl gNode_work_query_atoms ; 10 1 sl gNode_work_query_filters ; 11 1 sl gNode_work_shares ; 12 1 pr gNode_work_count ; 13 1 sl gNode_work_seen ; 14 1 pr gNode_work_num ; 15 1 pr gNode_work_black ; 16 1 pr gNode_work_holds ; 17 1 pr gNode_work_tokNum ; 18 1 pr gNode_work_tokBlack ; 19 1 pr gNode_work_walked ; 20 8 st gNode_work_cell ; 20 4 st gNode_work_cell_query ; 20 1 pr gNode_work_cell_query_each ; 21 1 sl gNode_work_cell_query_out ; 22 1 sl gNode_work_cell_query_atoms ; 23 1 sl gNode_work_cell_query_filters ; 24 1 sl gNode_work_cell_shares ; 25 1 pr gNode_work_cell_at ; 26 1 pr gNode_work_cell_n ; 27 1 sl gNode_work_cell_gots ; 28 1 pr gNode_work_told ; 29 1 sl gNode_work_waits ; 30 10 st gNode_ask ; 30 1 pr gNode_ask_on ; 31 4 st gNode_ask_query ; 31 1 pr gNode_ask_query_each ; 32 1 sl gNode_ask_query_out ; 33 1 sl gNode_ask_query_atoms ; 34 1 sl gNode_ask_query_filters ; 35 1 sl gNode_ask_shares ; 36 1 pr gNode_ask_count ; 37 1 sl gNode_ask_results ; 38 1 pr gNode_ask_over ; 39 1 st gNode_ask_answer ; 39 1 sl gNode_ask_answer_items | 40 | 
structure Cluster where
  query : Query
  nodes : List Node
  net : List ByteArray
  codes : List Int
  replies : List Bag
deriving DecidableEq, Inhabited
theorem Cluster.eq_iff {x y : Cluster} : x = y ↔ x.query = y.query ∧ x.nodes = y.nodes ∧ x.net = y.net ∧ x.codes = y.codes ∧ x.replies = y.replies := by cases x; cases y; simp
--@gt impl.Cluster | gCluster | default | obtain ⟨l0x#, b1x#, c1x#, b2x#, c2x#, b3x#, c3x#, b4x#, c4x#, rfl, h0x#, h1x#, h2x#, h3x#, h4x#⟩ := gCluster_rd.1 hl# ; obtain ⟨b1_0x#, c1_0x#, b2_0x#, c2_0x#, b3_0x#, c3_0x#, rfl, h1_0x#, h2_0x#, h3_0x#⟩ := gQuery_rd.1 h0x# | 0 4 st gCluster_query ; 0 1 pr gCluster_query_each ; 1 1 sl gCluster_query_out ; 2 1 sl gCluster_query_atoms ; 3 1 sl gCluster_query_filters ; 4 1 sl gCluster_nodes ; 5 1 sl gCluster_net ; 6 1 sl gCluster_codes ; 7 1 sl gCluster_replies | 8 | 
--@gt []impl.Item | (gSl 134 gItem) | [] | | 0 1 sl fldId | 1
--@gt []impl.Bag | (gSl 49 gBag) | [] | | 0 1 sl fldId | 1
--@gt []impl.Piece | (gSl 279 gPiece) | [] | | 0 1 sl fldId | 1
--@gt []impl.Path | (gSl 205 gPath) | [] | | 0 1 sl fldId | 1
--@gt []impl.Arc | (gSl 282 gArc) | [] | | 0 1 sl fldId | 1
--@gt []impl.Nfa | (gSl 212 gNfa) | [] | | 0 1 sl fldId | 1
--@gt []impl.Atom | (gSl 154 gAtom) | [] | | 0 1 sl fldId | 1
--@gt []impl.Filter | (gSl 157 gFilter) | [] | | 0 1 sl fldId | 1
--@gt []impl.Query | (gSl 37 gQuery) | [] | | 0 1 sl fldId | 1
--@gt []impl.File | (gSl 267 gFile) | [] | | 0 1 sl fldId | 1
--@gt []impl.Disk | (gSl 137 gDisk) | [] | | 0 1 sl fldId | 1
--@gt []impl.Walk | (gSl 184 gWalk) | [] | | 0 1 sl fldId | 1
--@gt []impl.Letter | (gSl 110 gLetter) | [] | | 0 1 sl fldId | 1
--@gt []impl.Link | (gSl 232 gLink) | [] | | 0 1 sl fldId | 1
--@gt []impl.Got | (gSl 171 gGot) | [] | | 0 1 sl fldId | 1
--@gt []impl.Cell | (gSl 140 gCell) | [] | | 0 1 sl fldId | 1
--@gt []impl.Mail | (gSl 112 gMail) | [] | | 0 1 sl fldId | 1
--@gt []impl.Work | (gSl 142 gWork) | [] | | 0 1 sl fldId | 1
--@gt []impl.Ask | (gSl 51 gAsk) | [] | | 0 1 sl fldId | 1
--@gt []impl.Node | (gSl 144 gNode) | [] | | 0 1 sl fldId | 1
--@gt []impl.Cluster | (gSl 41 gCluster) | [] | | 0 1 sl fldId | 1
--@gt []int | (gSl 3 gI) | [] | | 0 1 sl fldId | 1
--@gt []bool | (gSl 4 gB) | [] | | 0 1 sl fldId | 1
--@gt []uint8 | (gSl 5 gY) | [] | | 0 1 sl fldId | 1
--@gt []string | (gSl 9 gS) | [] | | 0 1 sl fldId | 1
--@gt int | gI | 0 | | 0 1 pr fldId | 1 | gI_ow ?_
--@gt bool | gB | false | | 0 1 pr fldId | 1 | gB_ow ?_
--@gt uint8 | gY | 0 | | 0 1 pr fldId | 1 | gY_owM _; gY_ow trivial
--@gt string | gS | ByteArray.empty | | 0 1 pr fldId | 1 | gS_ow ?_
end Go.Proofs.YtcnclhjhnjpeiaaGreatDoor
