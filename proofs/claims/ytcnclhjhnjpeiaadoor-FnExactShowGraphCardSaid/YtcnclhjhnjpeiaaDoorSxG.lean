/-
  How the values of a type lie: read, and owned with all that they refer to; lists, pairs and structures of such. Conditions: none.
-/
import Derived.Test.YtcnclhjhnjpeiaaDoorSxB
namespace Go.SX

/-- How a type's values lie. cnt, mark: the marks laid into a value that lies in memory; cntV, markV: those laid into a value in hand. -/
structure Gt (α : Type) extends Rp α where
  ow : List Value → α → Hp → Prop
  owrd : ∀ {l : List Value} {x : α} {A : Hp}, ow l x A → rd A l x
  owp : ∀ {l : List Value} {x : α} {A A' : Hp}, ow l x A → A'.Perm A → ow l x A'
  one : ∀ {H : Hp} {l : List Value} {x : α}, rd H l x → allOne l = true
  pos : 0 < size
  cnt : α → Nat
  mark : Int → α → α
  cntV : α → Nat
  markV : Int → α → α
  sz : α → Nat
  w : Nat
  cnt_le : ∀ x, cnt x ≤ w * (1 + sz x)
  cntV_le : ∀ x, cntV x ≤ w * (1 + sz x)

def Fl.gt {α : Type} (f : Fl α) (mk : Int → α) (sz : α → Nat := fun _ => 0) : Gt α where
  toRp := f.rp
  ow l x A := l = f.enc x ∧ f.wf x ∧ A = []
  owrd h := ⟨h.1, h.2.1⟩
  owp h hp := ⟨h.1, h.2.1, by rw [h.2.2] at hp; exact hp.eq_nil⟩
  one h := by rw [h.1]; exact f.one _
  pos := f.pos
  cnt _ := 1
  mark k _ := mk k
  cntV _ := 0
  markV _ x := x
  sz := sz
  w := 1
  cnt_le x := by omega
  cntV_le x := by omega

abbrev RawC (s : Nat) : Type := { l : List Value // l.length = s ∧ allOne l = true }
def flRaw (s : Nat) (hs : 0 < s) : Fl (RawC s) := ⟨s, fun l => l.1, fun _ => True, fun l => l.2.1, fun l => l.2.2, hs⟩

section
variable {α : Type}

inductive OwL (g : Gt α) : List (RawC g.size) → List α → List Hp → Prop where
  | nil : OwL g [] [] []
  | cons {l : RawC g.size} {x : α} {A : Hp} {ls : List (RawC g.size)} {xs : List α} {As : List Hp} : g.ow l.1 x A → OwL g ls xs As → OwL g (l :: ls) (x :: xs) (A :: As)

theorem OwL.len {g : Gt α} {ls : List (RawC g.size)} {xs : List α} {As : List Hp} (h : OwL g ls xs As) : ls.length = xs.length ∧ As.length = xs.length := by
  induction h with
  | nil => exact ⟨rfl, rfl⟩
  | cons _ _ ih => simp [ih]

theorem OwL.get {g : Gt α} {ls : List (RawC g.size)} {xs : List α} {As : List Hp} (h : OwL g ls xs As) : ∀ (i : Nat) (h1 : i < xs.length) (h2 : i < ls.length) (h3 : i < As.length), g.ow (ls[i]).1 xs[i] As[i] := by
  induction h with
  | nil => intro i h1; simp at h1
  | cons h hr ih =>
    intro i h1 h2 h3
    cases i with
    | zero => exact h
    | succ i => exact ih i (by simpa using h1) (by simpa using h2) (by simpa using h3)

theorem OwL.append {g : Gt α} {ls ls' : List (RawC g.size)} {xs xs' : List α} {As As' : List Hp} (h : OwL g ls xs As) (h' : OwL g ls' xs' As') : OwL g (ls ++ ls') (xs ++ xs') (As ++ As') := by
  induction h with
  | nil => exact h'
  | cons h hr ih => exact .cons h ih

theorem OwL.set {g : Gt α} {ls : List (RawC g.size)} {xs : List α} {As : List Hp} (h : OwL g ls xs As) {l : RawC g.size} {y : α} {B : Hp} (hy : g.ow l.1 y B) : ∀ (i : Nat), OwL g (ls.set i l) (xs.set i y) (As.set i B) := by
  induction h with
  | nil => intro i; exact .nil
  | cons h hr ih =>
    intro i
    cases i with
    | zero => exact .cons hy hr
    | succ i => exact .cons h (ih i)

theorem OwL.take {g : Gt α} {ls : List (RawC g.size)} {xs : List α} {As : List Hp} (h : OwL g ls xs As) : ∀ (i : Nat), OwL g (ls.take i) (xs.take i) (As.take i) := by
  induction h with
  | nil => intro i; simp; exact .nil
  | cons h hr ih =>
    intro i
    cases i with
    | zero => exact .nil
    | succ i => exact .cons h (ih i)

theorem OwL.rep {g : Gt α} {l : RawC g.size} {z : α} (hz : g.ow l.1 z []) : ∀ n, OwL g (List.replicate n l) (List.replicate n z) (List.replicate n [])
  | 0 => .nil
  | n + 1 => .cons hz (OwL.rep hz n)

def mkL (g : Gt α) : Int → List α → List α
  | _, [] => []
  | k, x :: r => g.mark k x :: mkL g (k + g.cnt x) r
def cntL (g : Gt α) : List α → Nat
  | [] => 0
  | x :: r => g.cnt x + cntL g r

theorem mkL_len (g : Gt α) : ∀ (xs : List α) (k : Int), (mkL g k xs).length = xs.length
  | [], _ => rfl
  | x :: r, k => by simp [mkL, mkL_len g r]
theorem cntL_append (g : Gt α) : ∀ (xs ys : List α), cntL g (xs ++ ys) = cntL g xs + cntL g ys
  | [], ys => by simp [cntL]
  | x :: r, ys => by simp [cntL, cntL_append g r]; omega
theorem mkL_append (g : Gt α) : ∀ (xs ys : List α) (k : Int), mkL g k (xs ++ ys) = mkL g k xs ++ mkL g (k + cntL g xs) ys
  | [], ys, k => by simp [mkL, cntL]
  | x :: r, ys, k => by simp [mkL, mkL_append g r, cntL, Int.add_assoc]

def szL (g : Gt α) : List α → Nat
  | [] => 0
  | x :: r => 1 + g.sz x + szL g r
theorem szL_append (g : Gt α) : ∀ (xs ys : List α), szL g (xs ++ ys) = szL g xs + szL g ys
  | [], ys => by simp [szL]
  | x :: r, ys => by simp [szL, szL_append g r]; omega
theorem len_szL (g : Gt α) : ∀ (xs : List α), xs.length ≤ szL g xs
  | [] => Nat.le_refl _
  | x :: r => by have := len_szL g r; simp only [szL, List.length_cons]; omega
theorem cntL_le (g : Gt α) : ∀ (xs : List α), cntL g xs ≤ g.w * szL g xs
  | [] => by simp [cntL]
  | x :: r => by
    have h1 := g.cnt_le x
    have h2 := cntL_le g r
    simp only [cntL, szL]
    rw [Nat.mul_add g.w (1 + g.sz x) (szL g r)]
    omega
theorem flat_lists (As : List Hp) (i : Nat) (hi : i < As.length) : As.flatten.Perm (As[i] ++ (As.set i []).flatten) := by
  induction As generalizing i with
  | nil => simp at hi
  | cons A r ih =>
    cases i with
    | zero => simp
    | succ i =>
      have h := ih i (by simpa using hi)
      simp only [List.flatten_cons, List.getElem_cons_succ, List.set_cons_succ]
      refine (h.append_left A).trans ?_
      rw [← List.append_assoc, ← List.append_assoc]
      exact List.perm_append_comm.append_right _

/-- a slice: its row, and what its elements own -/
def gSl (T : TypeId) (g : Gt α) : Gt (List α) where
  toRp := rpSl g.toRp
  ow l xs A := ∃ v ls A0 As, l = [v] ∧ Ow (flRaw g.size g.pos) T v ls A0 ∧ A.Perm (A0 ++ As.flatten) ∧ OwL g ls xs As
  owrd := by
    rintro l xs A ⟨v, ls, A0, As, rfl, ho, hp, hl⟩
    obtain ⟨base, cap, e, h1, h2⟩ := ho.rd
    obtain ⟨e1, e2⟩ := hl.len
    refine ⟨base, cap, by rw [← e1]; exact e, by rw [← e1]; exact h1, fun i hi => ?_⟩
    obtain ⟨b, o, l', h3, h4, h5⟩ := h2 i (by rw [e1]; exact hi)
    have hsub : ∀ p ∈ A0, p ∈ A := fun p hp' => hp.mem_iff.2 (List.mem_append_left _ hp')
    refine ⟨b, o, l', h3, h4.mono hsub, ?_⟩
    have h6 : l' = (ls[i]'(by rw [e1]; exact hi)).1 := h5.1
    rw [h6]
    refine g.mono (fun p hp' => hp.mem_iff.2 (List.mem_append_right _ ?_)) (g.owrd (hl.get i hi (by rw [e1]; exact hi) (by rw [e2]; exact hi)))
    exact List.mem_flatten.2 ⟨_, List.getElem_mem _, hp'⟩
  owp := by
    rintro l xs A A' ⟨v, ls, A0, As, rfl, ho, hp, hl⟩ h'
    exact ⟨v, ls, A0, As, rfl, ho, h'.trans hp, hl⟩
  one := by
    rintro H l xs ⟨_, _, rfl, _⟩; rfl
  pos := by show 0 < 1; omega
  cnt := cntL g
  mark := mkL g
  cntV := cntL g
  markV := mkL g
  sz := szL g
  w := g.w
  cnt_le xs := Nat.le_trans (cntL_le g xs) (Nat.mul_le_mul_left _ (by omega))
  cntV_le xs := Nat.le_trans (cntL_le g xs) (Nat.mul_le_mul_left _ (by omega))

theorem sl_rd {T : TypeId} {g : Gt α} {H : Hp} {l : List Value} {xs : List α} (h : (gSl T g).rd H l xs) : ∃ b c, l = [.slice b xs.length c] ∧ (gSl T g).rd H [.slice b xs.length c] xs := by
  obtain ⟨b, c, rfl, h1, h2⟩ := h
  exact ⟨b, c, rfl, b, c, rfl, h1, h2⟩
theorem sl_ow {T : TypeId} {g : Gt α} {A : Hp} {l : List Value} {xs : List α} (h : (gSl T g).ow l xs A) : ∃ b c, l = [.slice b xs.length c] ∧ (gSl T g).ow [.slice b xs.length c] xs A := by
  obtain ⟨b, c, rfl, h1, h2⟩ := (gSl T g).owrd h
  exact ⟨b, c, rfl, h⟩
theorem sl_len {T : TypeId} {g : Gt α} {H : Hp} {b : Option Addr} {m c : Nat} {xs : List α} (h : (gSl T g).rd H [.slice b m c] xs) : m = xs.length ∧ xs.length ≤ c ∧ xs.length ≤ 9223372036854775807 := by
  obtain ⟨b, c, e, h1, h2⟩ := h; cases e; exact ⟨rfl, h1⟩
theorem sl_nil (T : TypeId) (g : Gt α) (b : Option Addr) : (gSl T g).ow [.slice b 0 0] [] [] := ⟨_, [], [], [], rfl, Ow.nil _ _, by simp, .nil⟩

/-- a slice of plain elements -/
theorem fl_ow {f : Fl α} {mk : Int → α} {sz : α → Nat} {T : TypeId} {v : Value} {xs : List α} {A : Hp} (h : (gSl T (f.gt mk sz)).ow [v] xs A) : Ow f T v xs A := by
  obtain ⟨v', ls, A0, As, e, ho, hp, hl⟩ := h
  cases e
  have hA : ∀ {ls : List (RawC (f.gt mk sz).size)} {xs : List α} {As : List Hp}, OwL (f.gt mk sz) ls xs As → As.flatten = [] ∧ (∀ x ∈ xs, f.wf x) ∧ ls.flatMap (flRaw (f.gt mk sz).size (f.gt mk sz).pos).enc = xs.flatMap f.enc := by
    intro ls xs As h
    induction h with
    | nil => exact ⟨rfl, (fun _ h => by cases h), rfl⟩
    | cons h hr ih =>
      obtain ⟨h1, h2, h3⟩ := h
      refine ⟨by rw [List.flatten_cons, h3, ih.1]; rfl, ?_, ?_⟩
      · intro y hy
        rcases List.mem_cons.1 hy with rfl | hy
        · exact h2
        · exact ih.2.1 y hy
      · rw [List.flatMap_cons, List.flatMap_cons, ih.2.2]; congr 1
  obtain ⟨h1, h2, h3⟩ := hA hl
  rw [h1, List.append_nil] at hp
  obtain ⟨e1, _⟩ := hl.len
  obtain ⟨_, g1, base, cap, e, g2⟩ := ho
  rw [e1] at g1 e
  refine ⟨h2, g1, base, cap, e, ?_⟩
  rcases g2 with ⟨rfl, rfl, rfl⟩ | ⟨b, sp, g3, rfl, g4, g5⟩
  · have : xs = [] := by cases hl; rfl
    exact .inl ⟨rfl, this, hp.eq_nil⟩
  · refine .inr ⟨b, sp, g3, ?_, by rw [← e1]; exact g4, by rw [← e1]; exact g5⟩
    rw [← h3]
    exact List.perm_singleton.1 hp

theorem ow_fl {f : Fl α} {mk : Int → α} {sz : α → Nat} {T : TypeId} {v : Value} {xs : List α} {A : Hp} (h : Ow f T v xs A) : (gSl T (f.gt mk sz)).ow [v] xs A := by
  obtain ⟨h1, h2, base, cap, rfl, h3⟩ := h
  have key : ∀ (xs : List α), (∀ x ∈ xs, f.wf x) → ∃ ls As, OwL (f.gt mk sz) ls xs As ∧ As.flatten = [] ∧ ls.flatMap (flRaw (f.gt mk sz).size (f.gt mk sz).pos).enc = xs.flatMap f.enc := by
    intro xs
    induction xs with
    | nil => intro _; exact ⟨[], [], .nil, rfl, rfl⟩
    | cons x r ih =>
      intro hw
      obtain ⟨ls, As, g1, g2, g3⟩ := ih (fun y hy => hw y (List.mem_cons_of_mem _ hy))
      refine ⟨⟨f.enc x, f.len x, f.one x⟩ :: ls, [] :: As, .cons ⟨rfl, hw x (List.mem_cons_self ..), rfl⟩ g1, by rw [List.flatten_cons, g2]; rfl, ?_⟩
      exact congrArg (fun q => f.enc x ++ q) g3
  obtain ⟨ls, As, g1, g2, g3⟩ := key xs h1
  obtain ⟨e1, _⟩ := g1.len
  refine ⟨_, ls, A, As, rfl, ⟨fun _ _ => trivial, by rw [e1]; exact h2, base, cap, by rw [e1], ?_⟩, by rw [g2, List.append_nil], g1⟩
  rcases h3 with ⟨rfl, rfl, rfl⟩ | ⟨b, sp, h4, rfl, h5, h6⟩
  · have : ls = [] := by cases g1; rfl
    exact .inl ⟨rfl, this, rfl⟩
  · exact .inr ⟨b, sp, h4, by rw [g3], by rw [e1]; exact h5, by rw [e1]; exact h6⟩

end

/-- two things one behind the other -/
def gPair {α β : Type} (g : Gt α) (h : Gt β) : Gt (α × β) where
  size := g.size + h.size
  rd H l x := ∃ l1 l2, l = l1 ++ l2 ∧ g.rd H l1 x.1 ∧ h.rd H l2 x.2
  mono hh := by rintro ⟨l1, l2, e, h1, h2⟩; exact ⟨l1, l2, e, g.mono hh h1, h.mono hh h2⟩
  len := by rintro H l x ⟨l1, l2, rfl, h1, h2⟩; rw [List.length_append, g.len h1, h.len h2]
  ow l x A := ∃ l1 l2 A1 A2, l = l1 ++ l2 ∧ A.Perm (A1 ++ A2) ∧ g.ow l1 x.1 A1 ∧ h.ow l2 x.2 A2
  owrd := by
    rintro l x A ⟨l1, l2, A1, A2, rfl, hp, h1, h2⟩
    exact ⟨l1, l2, rfl, g.mono (fun p hp' => hp.mem_iff.2 (List.mem_append_left _ hp')) (g.owrd h1), h.mono (fun p hp' => hp.mem_iff.2 (List.mem_append_right _ hp')) (h.owrd h2)⟩
  owp := by
    rintro l x A A' ⟨l1, l2, A1, A2, rfl, hp, h1, h2⟩ h'
    exact ⟨l1, l2, A1, A2, rfl, h'.trans hp, h1, h2⟩
  one := by rintro H l x ⟨l1, l2, rfl, h1, h2⟩; exact allOne_append _ _ (g.one h1) (h.one h2)
  pos := by have := g.pos; omega
  cnt x := g.cnt x.1 + h.cnt x.2
  mark k x := (g.mark k x.1, h.mark (k + g.cnt x.1) x.2)
  cntV x := g.cntV x.1 + h.cntV x.2
  markV k x := (g.markV k x.1, h.markV (k + g.cntV x.1) x.2)
  sz x := g.sz x.1 + h.sz x.2
  w := g.w + h.w
  cnt_le x := Nat.le_trans (Nat.add_le_add (g.cnt_le x.1) (h.cnt_le x.2)) (by
    rw [Nat.add_mul]; exact Nat.add_le_add (Nat.mul_le_mul_left _ (by omega)) (Nat.mul_le_mul_left _ (by omega)))
  cntV_le x := Nat.le_trans (Nat.add_le_add (g.cntV_le x.1) (h.cntV_le x.2)) (by
    rw [Nat.add_mul]; exact Nat.add_le_add (Nat.mul_le_mul_left _ (by omega)) (Nat.mul_le_mul_left _ (by omega)))

/-- the same under another name -/
def gIso {α β : Type} (g : Gt α) (f : β → α) (f' : α → β) : Gt β where
  size := g.size
  rd H l x := g.rd H l (f x)
  mono hh h := g.mono hh h
  len h := g.len h
  ow l x A := g.ow l (f x) A
  owrd h := g.owrd h
  owp h hp := g.owp h hp
  one h := g.one h
  pos := g.pos
  cnt x := g.cnt (f x)
  mark k x := f' (g.mark k (f x))
  cntV x := g.cntV (f x)
  markV k x := f' (g.markV k (f x))
  sz x := g.sz (f x)
  w := g.w
  cnt_le x := g.cnt_le (f x)
  cntV_le x := g.cntV_le (f x)

def flU32 : Fl Int := ⟨1, fun x => [.int .u32 x], fun x => 0 ≤ x ∧ x ≤ 4294967295, fun _ => rfl, fun _ => rfl, by omega⟩
/-- a byte as its number -/
def flOct : Fl Int := ⟨1, fun x => [.int .u8 x], fun x => 0 ≤ x ∧ x ≤ 255, fun _ => rfl, fun _ => rfl, by omega⟩

section
variable {α : Type} {g : Gt α} {T : TypeId}

theorem set_split {β : Type} (ls : List β) (i : Nat) (q : β) (h : i < ls.length) : ls.set i q = ls.take i ++ q :: ls.drop (i + 1) := by
  rw [List.set_eq_take_append_cons_drop, if_pos h]

theorem raw_of {H : Hp} {l : List Value} {x : α} (h : g.rd H l x) : l.length = g.size ∧ allOne l = true := ⟨g.len h, g.one h⟩

/-- what an element of an owned slice owns may be taken out, and put back changed -/
theorem gopen {base : Option Addr} {m cap : Nat} {xs : List α} {A : Hp} (h : (gSl T g).ow [.slice base m cap] xs A) (i : Nat) (hi : i < xs.length) :
    ∃ lx Ax rest b o, base = some ⟨b, o, none⟩ ∧ A.Perm (Ax ++ rest) ∧ g.ow lx xs[i] Ax ∧ RdCells rest b (o + i * g.size) g.size lx ∧ ∀ y Ay A', g.ow lx y Ay → A'.Perm (Ay ++ rest) → (gSl T g).ow [.slice base m cap] (xs.set i y) A' := by
  obtain ⟨v, ls, A0, As, e, ho, hp, hl⟩ := h
  cases e
  obtain ⟨e1, e2⟩ := hl.len
  have h0 := hl.get i hi (by omega) (by omega)
  obtain ⟨base', cap', ee, _, hrd⟩ := ho.rd
  cases ee
  obtain ⟨b, o, l', k1, k2, k3, _⟩ := hrd i (by omega)
  have k3 : l' = (ls[i]'(by omega)).1 := k3
  refine ⟨(ls[i]'(by omega)).1, As[i]'(by omega), A0 ++ (As.set i []).flatten, b, o, k1, ?_, h0, ?_, ?_⟩
  · refine hp.trans (((flat_lists As i (by omega)).append_left A0).trans ?_)
    rw [← List.append_assoc, ← List.append_assoc]
    exact List.perm_append_comm.append_right _
  · rw [← k3]; exact k2.mono fun p hp' => List.mem_append_left _ hp'
  · intro y Ay A' hy hA'
    refine ⟨_, ls, A0, As.set i Ay, rfl, ho, ?_, ?_⟩
    · refine hA'.trans ?_
      have h1 := flat_lists (As.set i Ay) i (by simpa using (by omega : i < As.length))
      simp only [List.getElem_set_self, List.set_set] at h1
      have h2 := h1.append_left A0
      refine List.Perm.trans ?_ h2.symm
      rw [← List.append_assoc, ← List.append_assoc]
      exact List.perm_append_comm.append_right _
    · have := hl.set (l := ls[i]'(by omega)) (y := y) (B := Ay) hy i
      rw [List.set_getElem_self] at this
      exact this

/-- a store into an element of an owned slice: from its cell d on; B: what the element then owns, out of the heaplets R0 -/
theorem gstore {R : List Hp} {A : Hp} {base : Option Addr} {m cap : Nat} {xs : List α} {i : Int} {b o off : Nat} {l : List Value} {F : List Hp → Prop} (n : Nat) (hn : nthR R n = some A) (h : (gSl T g).ow [.slice base m cap] xs A)
    (h0 : 0 ≤ i) (h1 : i < xs.length) (hb : base = some ⟨b, o, none⟩) (d : Nat) (hoff : off = o + i.toNat * g.size + d) (y : α)
    (hy : ∀ lx Ax, g.ow lx (xs[i.toNat]'(by omega)) Ax → d + l.length ≤ g.size ∧ ∃ Ay, g.ow (setAt lx d l) y Ay ∧ Ax.Perm Ay)
    (k : ∀ A', A'.length = A.length → (gSl T g).ow [.slice base m cap] (xs.set i.toNat y) A' → F (setR R n A')) : VCstore R b off l F := by
  obtain ⟨v, ls, A0, As, e, ho, hp, hl⟩ := h
  cases e
  obtain ⟨e1, e2⟩ := hl.len
  have hi : i.toNat < xs.length := by omega
  have g0 := hl.get i.toNat hi (by omega) (by omega)
  obtain ⟨hd, Ay, hoy, hperm⟩ := hy _ _ g0
  subst hoff
  obtain ⟨hw, hlen, base', cap', e, h2⟩ := ho
  cases e
  rcases h2 with ⟨rfl, rfl, rfl⟩ | ⟨b', sp, h3, rfl, h4, h5⟩
  · simp at e1; omega
  · rw [hb] at h3; cases h3
    have hmem : (b, Obj.cells ⟨ls.flatMap (flRaw g.size g.pos).enc ++ sp⟩ T) ∈ A := hp.mem_iff.2 (List.mem_append_left _ (List.mem_singleton.2 rfl))
    obtain ⟨s, t, hst⟩ := List.append_of_mem hmem
    obtain ⟨pre, post, h6, h7⟩ := nthR_split hn
    have hoyr := raw_of (g.owrd hoy)
    have hsl : setAt (ls.flatMap (flRaw g.size g.pos).enc ++ sp) (i.toNat * g.size + d) l = (ls.set i.toNat ⟨setAt (ls[i.toNat]'(by omega)).1 d l, hoyr⟩).flatMap (flRaw g.size g.pos).enc ++ sp := by
      have e3 : ls.flatMap (flRaw g.size g.pos).enc = (ls.take i.toNat).flatMap (flRaw g.size g.pos).enc ++ ((ls[i.toNat]'(by omega)).1 ++ (ls.drop (i.toNat + 1)).flatMap (flRaw g.size g.pos).enc) := by
        conv => lhs; rw [← List.take_append_drop i.toNat ls, List.drop_eq_getElem_cons (by omega : i.toNat < ls.length)]
        rw [List.flatMap_append, List.flatMap_cons]; rfl
      have e4 : ((ls.take i.toNat).flatMap (flRaw g.size g.pos).enc).length = i.toNat * g.size := by
        rw [flat_length, List.length_take, Nat.min_eq_left (by omega)]; rfl
      have e5 : (ls[i.toNat]'(by omega)).1.length = g.size := (ls[i.toNat]'(by omega)).2.1
      have e6 : (ls.set i.toNat ⟨setAt (ls[i.toNat]'(by omega)).1 d l, hoyr⟩).flatMap (flRaw g.size g.pos).enc = (ls.take i.toNat).flatMap (flRaw g.size g.pos).enc ++ (setAt (ls[i.toNat]'(by omega)).1 d l ++ (ls.drop (i.toNat + 1)).flatMap (flRaw g.size g.pos).enc) := by
        rw [set_split _ _ _ (by omega), List.flatMap_append, List.flatMap_cons]; rfl
      rw [e6, e3]
      have gen : ∀ (P0 C Q : List Value), P0.length = i.toNat * g.size → d + l.length ≤ C.length → setAt (P0 ++ (C ++ Q) ++ sp) (i.toNat * g.size + d) l = P0 ++ (setAt C d l ++ Q) ++ sp := by
        intro P0 C Q hP hC
        rw [setAt_eq _ _ _ (by simp only [List.length_append]; omega), setAt_eq _ _ _ hC]
        simp only [List.append_assoc]
        rw [List.take_append, List.drop_append, List.take_of_length_le (by omega), List.drop_eq_nil_of_le (by omega : P0.length ≤ i.toNat * g.size + d + l.length)]
        rw [show i.toNat * g.size + d - P0.length = d by omega, show i.toNat * g.size + d + l.length - P0.length = d + l.length by omega]
        rw [List.take_append_of_le_length (by omega), List.drop_append_of_le_length (by omega)]
        simp only [List.append_assoc, List.nil_append]
      exact gen _ _ _ e4 (by rw [e5]; exact hd)
    refine .intro (setR R n (s ++ (b, Obj.cells ⟨(ls.set i.toNat ⟨setAt (ls[i.toNat]'(by omega)).1 d l, hoyr⟩).flatMap (flRaw g.size g.pos).enc ++ sp⟩ T) :: t)) ?_ (k _ (by rw [hst]; simp) ⟨_, ls.set i.toNat ⟨setAt (ls[i.toNat]'(by omega)).1 d l, hoyr⟩, [(b, Obj.cells ⟨(ls.set i.toNat ⟨setAt (ls[i.toNat]'(by omega)).1 d l, hoyr⟩).flatMap (flRaw g.size g.pos).enc ++ sp⟩ T)], As.set i.toNat Ay, rfl, ⟨fun _ _ => trivial, by simpa using hlen, some ⟨b, 0, none⟩, cap, by rw [hb, List.length_set], .inr ⟨b, sp, rfl, rfl, by simpa using h4, by simpa using h5⟩⟩, ?_, hl.set hoy i.toNat⟩)
    · refine ⟨pre, post, s, t, ⟨ls.flatMap (flRaw g.size g.pos).enc ++ sp⟩, T, by rw [h6, hst], ?_, ?_⟩
      · show 0 + i.toNat * g.size + d + l.length ≤ (ls.flatMap (flRaw g.size g.pos).enc ++ sp).length
        rw [List.length_append, flat_length]
        have : (flRaw g.size g.pos).size = g.size := rfl
        rw [this]
        have := Nat.mul_le_mul_right g.size (show i.toNat + 1 ≤ ls.length by omega)
        rw [Nat.succ_mul] at this; omega
      · rw [h7]
        simp only [Nat.zero_add]
        rw [hsl]
    · rw [hst] at hp
      have h8 : (s ++ t).Perm As.flatten := by
        have := (List.perm_middle (a := (b, Obj.cells ⟨ls.flatMap (flRaw g.size g.pos).enc ++ sp⟩ T)) (l₁ := s) (l₂ := t)).symm.trans hp
        exact (List.perm_cons _).1 this
      have h9 : As.flatten.Perm (As.set i.toNat Ay).flatten := by
        have q1 := flat_lists As i.toNat (by omega)
        have q2 := flat_lists (As.set i.toNat Ay) i.toNat (by simpa using (by omega : i.toNat < As.length))
        simp only [List.getElem_set_self, List.set_set] at q2
        exact q1.trans ((hperm.append_right _).trans q2.symm)
      refine List.perm_middle.trans ?_
      exact List.Perm.cons _ (h8.trans h9)
end
end Go.SX
