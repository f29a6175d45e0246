/-
  Slices of plain elements: reading, owning, storing, appending. Conditions: none.
-/
import Derived.Test.YtcnclhjhnjpeiaaDoorSxR
namespace Go.SX

/-- An element type without memory of its own: its cells. -/
structure Fl (α : Type) where
  size : Nat
  enc : α → List Value
  wf : α → Prop
  len : ∀ x, (enc x).length = size
  one : ∀ x, allOne (enc x) = true
  pos : 0 < size

def Fl.rp {α : Type} (f : Fl α) : Rp α where
  size := f.size
  rd _ l x := l = f.enc x ∧ f.wf x
  mono _ h := h
  len h := by rw [h.1]; exact f.len _

def flInt : Fl Int := ⟨1, fun x => [.int .i64 x], okI, fun _ => rfl, fun _ => rfl, by omega⟩
def flBool : Fl Bool := ⟨1, fun x => [.bool x], fun _ => True, fun _ => rfl, fun _ => rfl, by omega⟩
def flByte : Fl UInt8 := ⟨1, fun x => [.int .u8 x.toNat], fun _ => True, fun _ => rfl, fun _ => rfl, by omega⟩
def flStr : Fl ByteArray := ⟨1, fun x => [.string x], fun x => x.size ≤ 9223372036854775807, fun _ => rfl, fun _ => rfl, by omega⟩

section
variable {α : Type} (f : Fl α)

theorem flat_length : ∀ xs : List α, (xs.flatMap f.enc).length = xs.length * f.size
  | [] => by simp
  | x :: r => by simp only [List.flatMap_cons, List.length_append, f.len, flat_length r, List.length_cons]; rw [Nat.succ_mul]; omega

theorem flat_get : ∀ (xs : List α) (i k : Nat) (hi : i < xs.length), k < f.size → (xs.flatMap f.enc)[i * f.size + k]? = (f.enc xs[i])[k]?
  | [], i, k, hi, _ => by simp at hi
  | x :: r, 0, k, _, hk => by
    simp only [List.flatMap_cons, Nat.zero_mul, Nat.zero_add, List.getElem_cons_zero]
    rw [List.getElem?_append_left (by rw [f.len]; exact hk)]
  | x :: r, i + 1, k, hi, hk => by
    simp only [List.flatMap_cons, List.getElem_cons_succ]
    rw [List.getElem?_append_right (by rw [f.len, Nat.succ_mul]; omega), f.len]
    rw [show (i + 1) * f.size + k - f.size = i * f.size + k by rw [Nat.succ_mul]; omega]
    exact flat_get r i k (by simpa using hi) hk

theorem flat_set (xs : List α) (i : Nat) (y : α) (sp : List Value) (hi : i < xs.length) : setAt (xs.flatMap f.enc ++ sp) (i * f.size) (f.enc y) = (xs.set i y).flatMap f.enc ++ sp := by
  have hl := flat_length f xs
  have hb : i * f.size + f.size ≤ xs.length * f.size := by
    have := Nat.mul_le_mul_right f.size (show i + 1 ≤ xs.length by omega)
    rw [Nat.succ_mul] at this; exact this
  rw [setAt_eq _ _ _ (by rw [List.length_append, hl, f.len]; omega), f.len]
  apply List.ext_getElem?
  intro j
  have hl2 := flat_length f (xs.set i y)
  rw [List.length_set] at hl2
  by_cases hj : j < xs.length * f.size
  · rw [List.getElem?_append_left (l₁ := (xs.set i y).flatMap f.enc) (by omega)]
    have hp := f.pos
    have hq : j / f.size < xs.length := (Nat.div_lt_iff_lt_mul hp).2 hj
    have hm : j % f.size < f.size := Nat.mod_lt _ hp
    have hjj : j = (j / f.size) * f.size + j % f.size := by rw [Nat.mul_comm]; exact (Nat.div_add_mod j f.size).symm
    have hr : ((xs.set i y).flatMap f.enc)[j]? = (f.enc ((xs.set i y)[j / f.size]'(by simpa using hq)))[j % f.size]? := by
      have := flat_get f (xs.set i y) (j / f.size) (j % f.size) (by simpa using hq) hm
      rw [← hjj] at this; exact this
    have ho : (xs.flatMap f.enc)[j]? = (f.enc xs[j / f.size])[j % f.size]? := by
      have := flat_get f xs (j / f.size) (j % f.size) hq hm
      rw [← hjj] at this; exact this
    rw [hr]
    by_cases h1 : j < i * f.size
    · have hne : j / f.size ≠ i := by
        intro e
        have : i * f.size ≤ j := by rw [← e]; exact Nat.div_mul_le_self _ _
        omega
      rw [List.append_assoc, List.getElem?_append_left (by rw [List.length_take, List.length_append]; omega), List.getElem?_take, if_pos h1, List.getElem?_append_left (by omega), ho]
      rw [List.getElem_set_ne (by omega)]
    · by_cases h2 : j < i * f.size + f.size
      · have he : j / f.size = i := by
          apply Nat.div_eq_of_lt_le
          · omega
          · rw [Nat.succ_mul]; omega
        have hjm : j % f.size = j - i * f.size := by
          have : (j / f.size) * f.size + j % f.size = j := by rw [Nat.mul_comm]; exact Nat.div_add_mod j f.size
          rw [he] at this; omega
        rw [List.append_assoc, List.getElem?_append_right (by rw [List.length_take, List.length_append]; omega)]
        rw [List.getElem?_append_left (by rw [List.length_take, List.length_append, f.len]; omega)]
        have e2 : j - (List.take (i * f.size) (xs.flatMap f.enc ++ sp)).length = j % f.size := by
          rw [List.length_take, List.length_append, hl, hjm]; omega
        rw [e2]
        congr 2
        subst he
        simp
      · have hne : j / f.size ≠ i := by
          intro e
          have h3 : (j / f.size) * f.size + j % f.size = j := by rw [Nat.mul_comm]; exact Nat.div_add_mod j f.size
          rw [e] at h3; omega
        rw [List.append_assoc, List.getElem?_append_right (by rw [List.length_take, List.length_append]; omega)]
        rw [List.getElem?_append_right (by rw [List.length_take, List.length_append, f.len]; omega)]
        rw [List.getElem?_drop, List.length_take, List.length_append, f.len, hl]
        rw [show i * f.size + f.size + (j - min (i * f.size) (xs.length * f.size + sp.length) - f.size) = j by omega]
        rw [List.getElem?_append_left (by omega), ho, List.getElem_set_ne (by omega)]
  · rw [List.getElem?_append_right (l₁ := (xs.set i y).flatMap f.enc) (by omega), hl2]
    rw [List.append_assoc, List.getElem?_append_right (by rw [List.length_take, List.length_append]; omega)]
    rw [List.getElem?_append_right (by rw [List.length_take, List.length_append, f.len]; omega)]
    rw [List.getElem?_drop, List.length_take, List.length_append, f.len, hl]
    rw [show i * f.size + f.size + (j - min (i * f.size) (xs.length * f.size + sp.length) - f.size) = j by omega]
    rw [List.getElem?_append_right (by omega), hl]

/-- v is a slice that owns the heaplet A, in which its elements xs lie. -/
def Ow (T : TypeId) (v : Value) (xs : List α) (A : Hp) : Prop :=
  (∀ x ∈ xs, f.wf x) ∧ xs.length ≤ 9223372036854775807 ∧ ∃ base cap, v = .slice base xs.length cap ∧
    ((cap = 0 ∧ xs = [] ∧ A = []) ∨ ∃ b sp, base = some ⟨b, 0, none⟩ ∧ A = [(b, Obj.cells ⟨xs.flatMap f.enc ++ sp⟩ T)] ∧ xs.length ≤ cap ∧ (cap - xs.length) * f.size ≤ sp.length)

variable {f}

theorem Ow.nil (T : TypeId) (base : Option Addr) : Ow f T (.slice base 0 0) [] [] :=
  ⟨(fun _ h => by cases h), by simp, base, 0, rfl, .inl ⟨rfl, rfl, rfl⟩⟩

theorem Ow.rd {T : TypeId} {v : Value} {xs : List α} {A : Hp} (h : Ow f T v xs A) : (rpSl f.rp).rd A [v] xs := by
  obtain ⟨hw, hl, base, cap, rfl, h1⟩ := h
  refine ⟨base, cap, rfl, ⟨by rcases h1 with ⟨_, rfl, _⟩ | ⟨_, _, _, _, h1, _⟩ <;> simp_all, hl⟩, fun i hi => ?_⟩
  rcases h1 with ⟨_, rfl, _⟩ | ⟨b, sp, rfl, rfl, _, _⟩
  · simp at hi
  · refine ⟨b, 0, f.enc xs[i], rfl, ⟨f.len _, _, T, (0, 0), List.mem_singleton.2 rfl, fun k hk => ?_⟩, rfl, hw _ (List.getElem_mem _)⟩
    simp only [Nat.zero_add]
    have hk' : k < f.size := hk
    have hlen := flat_length f xs
    have hb : i * f.size + f.size ≤ xs.length * f.size := by
      have := Nat.mul_le_mul_right f.size (show i + 1 ≤ xs.length by omega)
      rw [Nat.succ_mul] at this; exact this
    have e : (⟨xs.flatMap f.enc ++ sp⟩ : Array Value)[i * f.size + k]? = (xs.flatMap f.enc ++ sp)[i * f.size + k]? := List.getElem?_toArray
    refine e.trans ?_
    rw [List.getElem?_append_left (by omega)]
    exact flat_get f xs i k hi hk'

/-- a slice of plain elements, read as one row -/
theorem rd_row {H : Hp} {base : Option Addr} {m cap : Nat} {ys : List α} (h : (rpSl f.rp).rd H [.slice base m cap] ys) {P : Program} {E : World} {w : World} (hs : Sat E H w) :
    m = ys.length ∧ (Builtin.firstCells f.size m (.slice base m cap)).run P w = .ok ⟨ys.flatMap f.enc⟩ w := by
  obtain ⟨base', cap', h1, h2, h3⟩ := h
  cases h1
  refine ⟨rfl, ?_⟩
  cases base with
  | none =>
    cases ys with
    | nil => rfl
    | cons y r => obtain ⟨_, _, _, h4, _⟩ := h3 0 (by simp); cases h4
  | some a =>
    simp only [Builtin.firstCells]
    rw [← flat_length f ys]
    cases ys with
    | nil => rfl
    | cons y r =>
      obtain ⟨b, o, _, h4, _⟩ := h3 0 (by simp)
      cases h4
      refine run_loadCells_list w ⟨b, o, none⟩ _ fun j v hj => ?_
      have hlt : j < (y :: r).length * f.size := by
        rw [← flat_length f]
        rcases Nat.lt_or_ge j ((y :: r).flatMap f.enc).length with h5 | h5
        · exact h5
        · rw [List.getElem?_eq_none h5] at hj; cases hj
      have hq : j / f.size < (y :: r).length := (Nat.div_lt_iff_lt_mul f.pos).2 hlt
      have hm : j % f.size < f.size := Nat.mod_lt _ f.pos
      have hjj : (j / f.size) * f.size + j % f.size = j := by rw [Nat.mul_comm]; exact Nat.div_add_mod j f.size
      obtain ⟨b', o', l', h6, ⟨h7, cs, T, fz, h8, h9⟩, h10, _⟩ := h3 (j / f.size) hq
      cases h6
      have h11 := flat_get f (y :: r) (j / f.size) (j % f.size) hq hm
      rw [hjj, hj] at h11
      rw [addr_add, hs.cell h8]
      have h12 := h9 (j % f.size) hm
      have h10' : l' = f.enc ((y :: r)[j / f.size]) := h10
      rw [h10', ← h11] at h12
      rw [← h12]
      congr 1
      show o + j = o + j / f.size * f.size + j % f.size
      omega

def nthR : List Hp → Nat → Option Hp
  | [], _ => none
  | A :: _, 0 => some A
  | _ :: r, i + 1 => nthR r i
def setR : List Hp → Nat → Hp → List Hp
  | [], _, _ => []
  | _ :: r, 0, A => A :: r
  | B :: r, i + 1, A => B :: setR r i A

theorem nthR_split : ∀ {R : List Hp} {i : Nat} {A : Hp}, nthR R i = some A → ∃ pre post, R = pre ++ A :: post ∧ ∀ A', setR R i A' = pre ++ A' :: post
  | [], _, _, h => by simp [nthR] at h
  | A :: r, 0, _, h => by cases h; exact ⟨[], r, rfl, fun _ => rfl⟩
  | B :: r, i + 1, A, h => by
    obtain ⟨pre, post, h1, h2⟩ := nthR_split (R := r) (i := i) h
    exact ⟨B :: pre, post, by rw [h1]; rfl, fun A' => by simp only [setR, h2]; rfl⟩

/-- an index into a slice that is read -/
theorem idx_rd {r : Rp α} {H : Hp} {base : Option Addr} {m cap : Nat} {xs : List α} {i : Int} {F : Nat → Nat → Prop} (h : (rpSl r).rd H [.slice base m cap] xs) (h0 : 0 ≤ i) (h1 : i < xs.length)
    (k : ∀ b o, base = some ⟨b, o, none⟩ → F b o) : VCidx base m i F := by
  obtain ⟨base', cap', e, _, h3⟩ := h
  cases e
  obtain ⟨b, o, _, h4, _⟩ := h3 i.toNat (by omega)
  exact .intro b o h4 h0 h1 (k b o h4)

/-- the element there -/
theorem load_rd {r : Rp α} {H H' : Hp} {base : Option Addr} {m cap : Nat} {xs : List α} {i : Int} {b o : Nat} {F : List Value → Prop} (h : (rpSl r).rd H [.slice base m cap] xs) (h0 : 0 ≤ i) (h1 : i < xs.length) (hb : base = some ⟨b, o, none⟩)
    (sub : ∀ p ∈ H, p ∈ H') (k : ∀ l, r.rd H' l (xs[i.toNat]'(by omega)) → F l) : VCload H' b (o + i.toNat * r.size) r.size F := by
  obtain ⟨base', cap', e, _, h3⟩ := h
  cases e
  obtain ⟨b', o', l, h4, h5, h6⟩ := h3 i.toNat (by omega)
  rw [hb] at h4; cases h4
  exact .intro l (h5.mono sub) (k l (r.mono sub h6))

theorem getD_lt {β : Type} (xs : List β) {i : Nat} (z : β) (h : i < xs.length) : xs.getD i z = xs[i] := by
  rw [List.getD_eq_getElem?_getD, List.getElem?_eq_getElem h]; rfl
theorem getD_ge {β : Type} (xs : List β) {i : Nat} (z : β) (h : xs.length ≤ i) : xs.getD i z = z := by
  rw [List.getD_eq_getElem?_getD, List.getElem?_eq_none h]; rfl
theorem load_rdD {r : Rp α} (z : α) {H H' : Hp} {base : Option Addr} {m cap : Nat} {xs : List α} {i : Int} {b o : Nat} {F : List Value → Prop} (h : (rpSl r).rd H [.slice base m cap] xs) (h0 : 0 ≤ i) (h1 : i < xs.length) (hb : base = some ⟨b, o, none⟩)
    (sub : ∀ p ∈ H, p ∈ H') (k : ∀ l, r.rd H' l (xs[i.toNat]?.getD z) → F l) : VCload H' b (o + i.toNat * r.size) r.size F :=
  load_rd h h0 h1 hb sub fun l hl => k l (by rw [List.getElem?_eq_getElem (by omega)]; exact hl)

/-- an index into an owned slice, and the store there -/
theorem store_ow {T : TypeId} {R : List Hp} {A : Hp} {base : Option Addr} {m cap : Nat} {xs : List α} {i : Int} {b o : Nat} {l : List Value} {y : α} {F : List Hp → Prop} (n : Nat) (hn : nthR R n = some A) (h : Ow f T (.slice base m cap) xs A)
    (h0 : 0 ≤ i) (h1 : i < xs.length) (hb : base = some ⟨b, o, none⟩) (hl : l = f.enc y) (hy : f.wf y) {off : Nat} (hoff : off = o + i.toNat * f.size)
    (k : ∀ A', Ow f T (.slice base m cap) (xs.set i.toNat y) A' → F (setR R n A')) : VCstore R b off l F := by
  obtain ⟨hw, hlen, base', cap', e, h2⟩ := h
  cases e
  subst hl hoff
  rcases h2 with ⟨_, rfl, _⟩ | ⟨b', sp, h3, rfl, h4, h5⟩
  · simp at h1; omega
  · rw [hb] at h3; cases h3
    obtain ⟨pre, post, h6, h7⟩ := nthR_split hn
    have hset := flat_set f xs i.toNat y sp (by omega)
    refine .intro (setR R n [(b, Obj.cells ⟨(xs.set i.toNat y).flatMap f.enc ++ sp⟩ T)]) ?_ (k _ ⟨?_, by simpa using hlen, some ⟨b, 0, none⟩, cap, by rw [hb, List.length_set], .inr ⟨b, sp, rfl, rfl, by simpa using h4, by simpa using h5⟩⟩)
    · refine ⟨pre, post, [], [], ⟨xs.flatMap f.enc ++ sp⟩, T, by rw [h6]; rfl, ?_, ?_⟩
      · show 0 + i.toNat * f.size + (f.enc y).length ≤ (xs.flatMap f.enc ++ sp).length
        rw [f.len, List.length_append, flat_length]
        have := Nat.mul_le_mul_right f.size (show i.toNat + 1 ≤ xs.length by omega)
        rw [Nat.succ_mul] at this; omega
      · rw [h7]
        simp only [List.nil_append, Nat.zero_add]
        rw [hset]
    · intro x hx
      rcases List.mem_or_eq_of_mem_set hx with hx | rfl
      · exact hw x hx
      · exact hy

theorem setAt_mid (pre c post : List Value) (j : Nat) (v : Value) (hj : j < c.length) : setAt (pre ++ (c ++ post)) (pre.length + j) [v] = pre ++ (setAt c j [v] ++ post) := by
  rw [setAt_eq _ _ _ (by simp; omega), setAt_eq _ _ _ (by simp; omega)]
  simp only [List.length_singleton]
  rw [List.take_append, List.drop_append]
  have e1 : pre.length + j - pre.length = j := by omega
  have e2 : pre.length + j + 1 - pre.length = j + 1 := by omega
  rw [List.take_of_length_le (by omega), List.drop_eq_nil_of_le (by omega), e1, e2, List.take_append_of_le_length (by omega), List.drop_append_of_le_length (by omega)]
  simp only [List.append_assoc, List.nil_append]

theorem flat_split (xs : List α) (i : Nat) (hi : i < xs.length) : xs.flatMap f.enc = (xs.take i).flatMap f.enc ++ (f.enc xs[i] ++ (xs.drop (i + 1)).flatMap f.enc) := by
  conv => lhs; rw [← List.take_append_drop i xs, List.drop_eq_getElem_cons hi]
  rw [List.flatMap_append, List.flatMap_cons]

/-- a store of one cell of an element -/
theorem store_part {T : TypeId} {R : List Hp} {A : Hp} {base : Option Addr} {m cap : Nat} {xs : List α} {i : Int} {b o : Nat} {l : List Value} (y : α) (j : Nat) (v : Value) {F : List Hp → Prop} (n : Nat) (hn : nthR R n = some A) (h : Ow f T (.slice base m cap) xs A)
    (h0 : 0 ≤ i) (h1 : i < xs.length) (hb : base = some ⟨b, o, none⟩) (hl : l = [v]) (hj : j < f.size) (hy : f.wf y) (hyl : f.enc y = setAt (f.enc (xs[i.toNat]'(by omega))) j [v]) {off : Nat} (hoff : off = o + i.toNat * f.size + j)
    (k : ∀ A', Ow f T (.slice base m cap) (xs.set i.toNat y) A' → F (setR R n A')) : VCstore R b off l F := by
  obtain ⟨hw, hlen, base', cap', e, h2⟩ := h
  cases e
  subst hl hoff
  rcases h2 with ⟨_, rfl, _⟩ | ⟨b', sp, h3, rfl, h4, h5⟩
  · simp at h1; omega
  · rw [hb] at h3; cases h3
    obtain ⟨pre, post, h6, h7⟩ := nthR_split hn
    have hi : i.toNat < xs.length := by omega
    have hset := flat_set f xs i.toNat y sp hi
    have hpl := flat_length f (xs.take i.toNat)
    rw [List.length_take, Nat.min_eq_left (by omega)] at hpl
    have key : setAt (xs.flatMap f.enc ++ sp) (i.toNat * f.size + j) [v] = (xs.set i.toNat y).flatMap f.enc ++ sp := by
      rw [flat_split xs i.toNat hi, List.append_assoc, List.append_assoc, ← hpl, setAt_mid _ _ _ _ _ (by rw [f.len]; exact hj), ← hyl]
      rw [flat_split (xs.set i.toNat y) i.toNat (by simpa using hi)]
      simp [List.take_set_of_le, List.drop_set_of_lt]
    have hmul := Nat.mul_le_mul_right f.size (show i.toNat + 1 ≤ xs.length by omega)
    rw [Nat.succ_mul] at hmul
    refine .intro (setR R n [(b, Obj.cells ⟨(xs.set i.toNat y).flatMap f.enc ++ sp⟩ T)]) ?_ (k _ ⟨?_, by simpa using hlen, some ⟨b, 0, none⟩, cap, by rw [hb, List.length_set], .inr ⟨b, sp, rfl, rfl, by simpa using h4, by simpa using h5⟩⟩)
    · refine ⟨pre, post, [], [], ⟨xs.flatMap f.enc ++ sp⟩, T, by rw [h6]; rfl, ?_, ?_⟩
      · show 0 + i.toNat * f.size + j + 1 ≤ (xs.flatMap f.enc ++ sp).length
        rw [List.length_append, flat_length]; omega
      · rw [h7]
        simp only [List.nil_append, Nat.zero_add]
        rw [key]
    · intro x hx
      rcases List.mem_or_eq_of_mem_set hx with hx | rfl
      · exact hw x hx
      · exact hy

theorem idx_ow {T : TypeId} {A : Hp} {base : Option Addr} {m cap : Nat} {xs : List α} {i : Int} {F : Nat → Nat → Prop} (h : Ow f T (.slice base m cap) xs A) (h0 : 0 ≤ i) (h1 : i < xs.length)
    (k : ∀ b o, base = some ⟨b, o, none⟩ → F b o) : VCidx base m i F := idx_rd h.rd h0 h1 k

/-- the front of an owned slice -/
theorem Ow.take {T : TypeId} {A : Hp} {base : Option Addr} {m cap i : Nat} {xs : List α} (h : Ow f T (.slice base m cap) xs A) (hi : i ≤ xs.length) : Ow f T (.slice base i cap) (xs.take i) A := by
  obtain ⟨hw, hl, base', cap', e, h2⟩ := h
  cases e
  have hlen : (xs.take i).length = i := by rw [List.length_take]; omega
  refine ⟨fun x hx => hw x (List.mem_of_mem_take hx), by omega, base, cap, by rw [hlen], ?_⟩
  rcases h2 with ⟨rfl, rfl, rfl⟩ | ⟨b, sp, rfl, rfl, h3, h4⟩
  · exact .inl ⟨rfl, by simp, rfl⟩
  · refine .inr ⟨b, (xs.drop i).flatMap f.enc ++ sp, rfl, ?_, by omega, ?_⟩
    · rw [← List.append_assoc, ← List.flatMap_append, List.take_append_drop]
    · rw [List.length_append, flat_length, List.length_drop, hlen]
      have e5 : (cap - i) * f.size = (xs.length - i) * f.size + (cap - xs.length) * f.size := by rw [← Nat.add_mul]; congr 1; omega
      omega

/-- a part of a slice that is read -/
theorem rd_sub {r : Rp α} {H : Hp} {base : Option Addr} {m cap l h : Nat} {xs : List α} (hx : (rpSl r).rd H [.slice base m cap] xs) (h1 : l ≤ h) (h2 : h ≤ xs.length) (hm : h - l ≤ cap - l := by omega) :
    (rpSl r).rd H [.slice (subBase cap l base r.size) (h - l) (cap - l)] ((xs.take h).drop l) := by
  rw [subBase_eq]
  obtain ⟨base', cap', e, ⟨h3, h4⟩, h5⟩ := hx
  cases e
  have hlen : ((xs.take h).drop l).length = h - l := by rw [List.length_drop, List.length_take]; omega
  refine ⟨_, _, by rw [hlen], ⟨by omega, by omega⟩, fun i hi => ?_⟩
  rw [hlen] at hi
  obtain ⟨b, o, l', h6, h7, h8⟩ := h5 (l + i) (by omega)
  subst h6
  refine ⟨b, o + l * r.size, l', ?_, ?_, ?_⟩
  · rw [if_neg (by omega)]; simp [addr_add]
  · rw [Nat.add_mul, ← Nat.add_assoc] at h7; exact h7
  · rw [List.getElem_drop, List.getElem_take]; exact h8

/-- a new slice of zeros -/
theorem Ow.make {T : TypeId} {z : α} {b n c : Nat} (hz : f.wf z) (hn : n ≤ c) (hc : c ≤ 281474976710656) : Ow f T (.slice (some ⟨b, 0, none⟩) n c) (List.replicate n z) [(b, Obj.cells ⟨zeros c (f.enc z)⟩ T)] := by
  have hsplit : ∀ c, n ≤ c → zeros c (f.enc z) = (List.replicate n z).flatMap f.enc ++ zeros (c - n) (f.enc z) := by
    induction n with
    | zero => intro c _; simp
    | succ n ih =>
      intro c hc
      obtain ⟨c', rfl⟩ : ∃ c', c = c' + 1 := ⟨c - 1, by omega⟩
      rw [zeros, ih (by omega) c' (by omega), List.replicate_succ, List.flatMap_cons, List.append_assoc]
      rw [show c' + 1 - (n + 1) = c' - n by omega]
  refine ⟨fun x hx => by rw [List.eq_of_mem_replicate hx]; exact hz, by simp; omega, some ⟨b, 0, none⟩, c, by simp, .inr ⟨b, zeros (c - n) (f.enc z), rfl, by rw [hsplit c hn], by simpa using hn, by simp [zeros_length, f.len]⟩⟩

/-- a slice literal -/
theorem Ow.lit {T : TypeId} {b : Nat} {xs : List α} (hw : ∀ x ∈ xs, f.wf x) (hl : xs.length ≤ 9223372036854775807) : Ow f T (.slice (some ⟨b, 0, none⟩) xs.length xs.length) xs [(b, Obj.cells ⟨xs.flatMap f.enc⟩ T)] :=
  ⟨hw, hl, _, _, rfl, .inr ⟨b, [], rfl, by simp, Nat.le_refl _, by simp⟩⟩

end
section
variable {P : Program}
theorem opens_fi {T : TypeId} (h : P.underlying T = some (.int .i64)) : Opens P flInt.rp T := fun enc w H sp hd fuel cs d ps hc ht => opens_int h enc w H sp hd fuel cs d ps hc ht
theorem opens_fb {T : TypeId} (h : P.underlying T = some .bool) : Opens P flBool.rp T := by
  intro H' enc w H sp hd fuel cs d ps hc ht
  obtain ⟨x, h⟩ := opens_bool h enc w H sp hd fuel cs d ps hc ht
  exact ⟨x, h, trivial⟩
theorem opens_fs {T : TypeId} (h : P.underlying T = some .string) : Opens P flStr.rp T := fun enc w H sp hd fuel cs d ps hc ht => opens_str h enc w H sp hd fuel cs d ps hc ht
theorem opens_fy {T : TypeId} (h : P.underlying T = some (.int .u8)) : Opens P flByte.rp T := by
  intro H' enc w H sp hd fuel cs d ps hc ht
  obtain ⟨x, h⟩ := opens_byte h enc w H sp hd fuel cs d ps hc ht
  exact ⟨x, h, trivial⟩
end
end Go.SX
