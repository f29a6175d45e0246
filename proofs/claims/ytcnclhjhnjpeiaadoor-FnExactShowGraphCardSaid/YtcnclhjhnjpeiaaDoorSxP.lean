/-
  Fields: a part of a value that may be read, written, or handed on alone. Conditions: none.
-/
import Derived.Test.YtcnclhjhnjpeiaaDoorSxC
import Derived.Laws.Strings
namespace Go.SX

theorem svi_eq {a b : Int} (h : a = b) : Value.int .i64 a = Value.int .i64 b := by rw [h]

theorem u8_wrap (x : Int) : IntKind.u8.wrap x = x % 256 := by
  unfold IntKind.wrap
  simp [IntKind.bits, IntKind.signed]

theorem str_inj {a b : ByteArray} : a.toList = b.toList ↔ a = b := by
  constructor
  · intro h
    rw [ByteArray.toList_eq, ByteArray.toList_eq] at h
    obtain ⟨⟨a⟩⟩ := a; obtain ⟨⟨b⟩⟩ := b
    cases h; rfl
  · rintro rfl; rfl

theorem u8_inj {a b : UInt8} : ((a.toNat : Nat) : Int) = (b.toNat : Nat) ↔ a = b := by
  constructor
  · intro h
    exact UInt8.toNat_inj.1 (by omega)
  · rintro rfl; rfl

theorem setAt_len (l : List Value) : ∀ (cs : List Value) (o : Nat), (setAt cs o l).length = cs.length := by
  induction l with
  | nil => intro cs o; rfl
  | cons x r ih => intro cs o; rw [setAt, ih]; simp
theorem allOne_iff : ∀ (l : List Value), allOne l = true ↔ ∀ x ∈ l, allOne [x] = true
  | [] => by simp [allOne]
  | x :: r => by
    have ih := allOne_iff r
    cases x <;> simp_all [allOne]
theorem setAt_one (l : List Value) (h : allOne l = true) : ∀ (cs : List Value) (o : Nat), allOne cs = true → allOne (setAt cs o l) = true := by
  induction l with
  | nil => intro cs o hc; exact hc
  | cons x r ih =>
    intro cs o hc
    have h1 := (allOne_iff (x :: r)).1 h
    rw [setAt]
    refine ih ((allOne_iff r).2 fun y hy => h1 y (List.mem_cons_of_mem _ hy)) _ _ ((allOne_iff _).2 fun y hy => ?_)
    rcases List.mem_or_eq_of_mem_set hy with hy | rfl
    · exact (allOne_iff cs).1 hc y hy
    · exact h1 _ (List.mem_cons_self ..)

theorem setAt_nil (cs : List Value) (o : Nat) : setAt cs o [] = cs := rfl

theorem setAt_app_l (l1 l2 l : List Value) (d : Nat) (h : d + l.length ≤ l1.length) : setAt (l1 ++ l2) d l = setAt l1 d l ++ l2 := by
  rw [setAt_eq _ _ _ (by rw [List.length_append]; omega), setAt_eq _ _ _ h]
  rw [List.take_append_of_le_length (by omega), List.drop_append_of_le_length (by omega)]
  simp

theorem setAt_app_r (l1 l2 l : List Value) (d : Nat) (h : d + l.length ≤ l2.length) : setAt (l1 ++ l2) (l1.length + d) l = l1 ++ setAt l2 d l := by
  rw [setAt_eq _ _ _ (by rw [List.length_append]; omega), setAt_eq _ _ _ h]
  rw [List.take_append, List.drop_append, List.take_of_length_le (by omega), List.drop_eq_nil_of_le (by omega : l1.length ≤ l1.length + d + l.length)]
  rw [show l1.length + d - l1.length = d by omega, show l1.length + d + l.length - l1.length = d + l.length by omega]
  simp

theorem setAt_whole (l l' : List Value) (h : l'.length = l.length) : setAt l 0 l' = l' := by
  rw [setAt_eq _ _ _ (by omega)]
  simp [h]

theorem setAt_at {l l1 : List Value} (d d' s : Nat) (l' : List Value) (hl : l1 = (l.drop d).take s) (h1 : d + s ≤ l.length) (h2 : d' + l'.length ≤ s) : setAt l d (setAt l1 d' l') = setAt l (d + d') l' := by
  have e1 : l1.length = s := by rw [hl, List.length_take, List.length_drop]; omega
  have e0 : (setAt l1 d' l').length = s := by rw [setAt_len, e1]
  rw [setAt_eq _ _ _ (by rw [setAt_len]; omega), e0, setAt_eq _ _ _ (by omega), setAt_eq _ _ _ (by omega)]
  have a1 : l1.take d' = (l.drop d).take d' := by rw [hl, List.take_take, Nat.min_eq_left (by omega)]
  have a2 : l1.drop (d' + l'.length) ++ l.drop (d + s) = l.drop (d + d' + l'.length) := by
    rw [Nat.add_assoc d]
    generalize hk : d' + l'.length = k at *
    rw [← List.drop_drop, ← List.drop_drop, hl]
    have hm : (l.drop d).length = l.length - d := List.length_drop
    generalize l.drop d = m at *
    rw [← List.drop_append_of_le_length (by rw [List.length_take]; omega), List.take_append_drop]
  rw [a1]
  have e1' := e1
  have a3 : l.take d ++ (l.drop d).take d' = l.take (d + d') := by rw [List.take_add]
  rw [← a2, ← a3]
  simp only [List.append_assoc]

section
variable {α β γ : Type}

/-- the cells from d on of a value under g are a value under h -/
structure Fld (g : Gt α) (h : Gt β) (get : α → β) (upd : α → β → α) (d : Nat) : Prop where
  fit : d + h.size ≤ g.size
  rd : ∀ {H : Hp} {l : List Value} {x : α}, g.rd H l x → h.rd H ((l.drop d).take h.size) (get x)
  ow : ∀ {l : List Value} {x : α} {A : Hp}, g.ow l x A → ∃ Af Ar, A.Perm (Af ++ Ar) ∧ h.ow ((l.drop d).take h.size) (get x) Af ∧ ∀ l' y B, h.ow l' y B → g.ow (setAt l d l') (upd x y) (B ++ Ar)

theorem Fld.id (g : Gt α) : Fld g g (fun x => x) (fun _ y => y) 0 where
  fit := by omega
  rd h := by
    have e := g.len h
    rw [List.drop_zero, ← e, List.take_length]; exact h
  ow h := by
    have e := g.len (g.owrd h)
    refine ⟨_, [], by rw [List.append_nil], by rw [List.drop_zero, ← e, List.take_length]; exact h, fun l' y B hB => ?_⟩
    have e' := g.len (g.owrd hB)
    rw [setAt_whole _ _ (by omega), List.append_nil]; exact hB

theorem fldId {g : Gt α} : Fld g g (fun x => x) (fun _ y => y) 0 := Fld.id g

theorem Fld.fst (g : Gt α) (h : Gt β) : Fld (gPair g h) g (fun x => x.1) (fun x y => (y, x.2)) 0 where
  fit := by show 0 + g.size ≤ g.size + h.size; omega
  rd := by
    rintro H l x ⟨l1, l2, rfl, h1, h2⟩
    have e := g.len h1
    rw [List.drop_zero, ← e, List.take_left]; exact h1
  ow := by
    rintro l x A ⟨l1, l2, A1, A2, rfl, hp, h1, h2⟩
    have e := g.len (g.owrd h1)
    refine ⟨A1, A2, hp, by rw [List.drop_zero, ← e, List.take_left]; exact h1, fun l' y B hB => ?_⟩
    have e' := g.len (g.owrd hB)
    rw [setAt_app_l _ _ _ _ (by omega), setAt_whole _ _ (by omega)]
    exact ⟨l', l2, B, A2, rfl, .refl _, hB, h2⟩

theorem Fld.snd (g : Gt α) (h : Gt β) : Fld (gPair g h) h (fun x => x.2) (fun x y => (x.1, y)) g.size where
  fit := by show g.size + h.size ≤ g.size + h.size; omega
  rd := by
    rintro H l x ⟨l1, l2, rfl, h1, h2⟩
    have e := g.len h1
    have e2 := h.len h2
    rw [← e, List.drop_left, ← e2, List.take_length]; exact h2
  ow := by
    rintro l x A ⟨l1, l2, A1, A2, rfl, hp, h1, h2⟩
    have e := g.len (g.owrd h1)
    have e2 := h.len (h.owrd h2)
    refine ⟨A2, A1, hp.trans List.perm_append_comm, by rw [← e, List.drop_left, ← e2, List.take_length]; exact h2, fun l' y B hB => ?_⟩
    have e' := h.len (h.owrd hB)
    have := setAt_app_r l1 l2 l' 0 (by omega)
    rw [Nat.add_zero, e] at this
    rw [this, setAt_whole _ _ (by omega)]
    exact ⟨l1, l', A1, B, rfl, List.perm_append_comm, h1, hB⟩

theorem Fld.iso {g : Gt α} {h : Gt β} {get : α → β} {upd : α → β → α} {d : Nat} {f : γ → α} {f' : α → γ} (F : Fld g h get upd d) {get' : γ → β} {upd' : γ → β → γ} (hg : ∀ x, get' x = get (f x)) (hu : ∀ x y, f (upd' x y) = upd (f x) y) : Fld (gIso g f f') h get' upd' d where
  fit := F.fit
  rd hh := by rw [hg]; exact F.rd hh
  ow hh := by
    obtain ⟨Af, Ar, h1, h2, h3⟩ := F.ow hh
    refine ⟨Af, Ar, h1, by rw [hg]; exact h2, fun l' y B hB => ?_⟩
    show g.ow _ (f _) _
    rw [hu]; exact h3 l' y B hB

theorem Fld.comp {g : Gt α} {h : Gt β} {k : Gt γ} {get : α → β} {upd : α → β → α} {d : Nat} {get' : β → γ} {upd' : β → γ → β} {d' : Nat} (F : Fld g h get upd d) (G : Fld h k get' upd' d') : Fld g k (fun x => get' (get x)) (fun x y => upd x (upd' (get x) y)) (d + d') where
  fit := by have := F.fit; have := G.fit; omega
  rd {H l x} hh := by
    have := G.rd (F.rd hh)
    have hf := G.fit
    rw [List.drop_take, List.take_take, Nat.min_eq_left (by omega), List.drop_drop] at this
    exact this
  ow {l x A} hh := by
    have hf := G.fit
    have hf2 := F.fit
    have el := g.len (g.owrd hh)
    obtain ⟨Af, Ar, h1, h2, h3⟩ := F.ow hh
    obtain ⟨Bf, Br, k1, k2, k3⟩ := G.ow h2
    refine ⟨Bf, Br ++ Ar, ?_, ?_, fun l' y B hB => ?_⟩
    · refine h1.trans ?_
      rw [← List.append_assoc]; exact k1.append_right _
    · rw [List.drop_take, List.take_take, Nat.min_eq_left (by omega), List.drop_drop] at k2
      exact k2
    · have e' := k.len (k.owrd hB)
      have := h3 _ _ _ (k3 l' y B hB)
      rw [setAt_at (l := l) d d' h.size l' rfl (by omega) (by omega)] at this
      rw [← List.append_assoc]; exact this

/-- what a part l of a memory A is, and what the whole is when the part has changed -/
def Foc (h : Gt β) (l : List Value) (y : β) (A : Hp) (back : β → Hp → Prop) : Prop :=
  ∃ Af Ar, A.Perm (Af ++ Ar) ∧ h.ow l y Af ∧ ∀ y' B A', h.ow l y' B → A'.Perm (B ++ Ar) → back y' A'

theorem setAt_self (l : List Value) (d s : Nat) (h : d + s ≤ l.length) : setAt l d ((l.drop d).take s) = l := by
  rw [setAt_eq _ _ _ (by rw [List.length_take, List.length_drop]; omega)]
  rw [List.length_take, List.length_drop, Nat.min_eq_left (by omega), ← List.drop_drop, List.append_assoc, List.take_append_drop, List.take_append_drop]

theorem Fld.foc {g : Gt α} {h : Gt β} {get : α → β} {upd : α → β → α} {d : Nat} (F : Fld g h get upd d) {l : List Value} {x : α} {A : Hp} (ho : g.ow l x A) : Foc h ((l.drop d).take h.size) (get x) A (fun y A' => g.ow l (upd x y) A') := by
  obtain ⟨Af, Ar, h1, h2, h3⟩ := F.ow ho
  refine ⟨Af, Ar, h1, h2, fun y' B A' hB hp => g.owp ?_ hp⟩
  have := h3 _ _ _ hB
  rwa [setAt_self _ _ _ (by have := F.fit; have := g.len (g.owrd ho); omega)] at this

variable {P : Program} {E : World} {Γ : Ty} {n : Nat} {g : Gt α} {T : TypeId}

theorem gfoc {h : Gt β} {get : α → β} {upd : α → β → α} {d : Nat} (F : Fld g h get upd d) {base : Option Addr} {m cap : Nat} {xs : List α} {A : Hp} (ho : (gSl T g).ow [.slice base m cap] xs A) (z : α) (i : Nat) (hi : i < xs.length) :
    ∃ b o lx, base = some ⟨b, o, none⟩ ∧ g.rd A lx (xs[i]?.getD z) ∧ RdCells A b (o + i * g.size) g.size lx ∧ Foc h ((lx.drop d).take h.size) (get (xs[i]?.getD z)) A (fun y A' => (gSl T g).ow [.slice base m cap] (xs.set i (upd (xs[i]?.getD z) y)) A') := by
  obtain ⟨lx, Ax, rest, b, o, hb, hp, hx, hr, hc⟩ := gopen ho i hi
  rw [List.getElem?_eq_getElem hi, Option.getD_some]
  refine ⟨b, o, lx, hb, g.mono (fun p h' => hp.mem_iff.2 (List.mem_append_left _ h')) (g.owrd hx), hr.mono fun p h' => hp.mem_iff.2 (List.mem_append_right _ h'), ?_⟩
  obtain ⟨Af, Ar, h1, h2, h3⟩ := F.foc hx
  refine ⟨Af, Ar ++ rest, ?_, h2, fun y' B A' hB hA' => ?_⟩
  · refine hp.trans ?_
    rw [← List.append_assoc]; exact h1.append_right _
  · refine hc _ (B ++ Ar) A' (h3 y' B (B ++ Ar) hB (.refl _)) ?_
    rw [List.append_assoc]; exact hA'

/-- a part of an element of an owned slice is read; it may be handed on -/
theorem load_foc {h : Gt β} {get : α → β} {upd : α → β → α} {d : Nat} (F : Fld g h get upd d) (z : α) {H' A : Hp} {base : Option Addr} {m cap : Nat} {xs : List α} {i : Int} {b o off : Nat} {G : List Value → Prop}
    (ho : (gSl T g).ow [.slice base m cap] xs A) (h0 : 0 ≤ i) (h1 : i < xs.length) (hb : base = some ⟨b, o, none⟩) (hoff : off = o + i.toNat * g.size + d) (sub : ∀ p ∈ A, p ∈ H')
    (k : ∀ l, h.rd A l (get (xs[i.toNat]?.getD z)) → Foc h l (get (xs[i.toNat]?.getD z)) A (fun y A' => (gSl T g).ow [.slice base m cap] (xs.set i.toNat (upd (xs[i.toNat]?.getD z) y)) A') → G l) : VCload H' b off h.size G := by
  obtain ⟨b', o', lx, hb', hrd, hr, hf⟩ := gfoc F ho z i.toNat (by omega)
  rw [hb] at hb'; cases hb'
  have hfit := F.fit
  have el := g.len hrd
  refine .intro ((lx.drop d).take h.size) ?_ (k _ (F.rd hrd) hf)
  obtain ⟨g1, cs, T', fz, g2, g3⟩ := hr
  refine ⟨by rw [List.length_take, List.length_drop]; omega, cs, T', fz, sub _ g2, fun j hj => ?_⟩
  have := g3 (d + j) (by omega)
  rw [hoff, Nat.add_assoc (o + i.toNat * g.size) d j, this, List.getElem?_take, if_pos hj, List.getElem?_drop]

theorem load_focN {h : Gt β} {get : α → β} {upd : α → β → α} {d : Nat} (F : Fld g h get upd d) (z : α) (k : Nat) {H' A : Hp} {base : Option Addr} {m cap : Nat} {xs : List α} {i : Int} {b o off : Nat} {G : List Value → Prop} (hk : i = (k : Int))
    (ho : (gSl T g).ow [.slice base m cap] xs A) (h0 : 0 ≤ i) (h1 : i < xs.length) (hb : base = some ⟨b, o, none⟩) (hoff : off = o + i.toNat * g.size + d) (sub : ∀ p ∈ A, p ∈ H')
    (c : ∀ l, h.rd A l (get (xs[k]?.getD z)) → Foc h l (get (xs[k]?.getD z)) A (fun y A' => (gSl T g).ow [.slice base m cap] (xs.set k (upd (xs[k]?.getD z) y)) A') → G l) : VCload H' b off h.size G := by
  subst hk
  exact load_foc F z ho h0 h1 hb hoff sub c

open Classical in
/-- a call that writes what the part l owns -/
theorem call_foc (i : Nat) {h : Gt β} {l : List Value} {y y' : β} {A : Hp} {back : β → Hp → Prop} {Q : Value → Prop} {f : FuncId} {args : List Value} {bl : List Blk} {R : List Hp} {pre : Hp → Prop} {K : Value → List Blk → List Hp → Prop} (hi : nthR R i = some A)
    (hf : Foc h l y A back) (hc : ∀ Af, h.ow l y Af → CtR P f args Af pre (fun v A' => Q v ∧ h.ow l y' A')) (hp : ∀ H, (∀ p ∈ St.hall ⟨[], bl, setR R i []⟩, p ∈ H) → pre H)
    (hk : ∀ v A', Q v → back y' A' → K v bl (setR R i A')) : VCcall P E f args ⟨[], bl, R⟩ K := by
  obtain ⟨Af, Ar, h1, h2, h3⟩ := hf
  obtain ⟨pr, po, e1, e2⟩ := nthR_split hi
  have perm : ∀ A B C : Hp, A.Perm (B ++ C) → (St.hall ⟨[], bl, pr ++ A :: po⟩).Perm (B ++ (C ++ St.hall ⟨[], bl, pr ++ [] :: po⟩)) := by
    intro A B C hAB
    refine perm_cnt fun a => ?_
    have := hAB.count_eq a
    simp only [St.hall, List.flatten_append, List.flatten_cons, List.count_append, List.nil_append] at *
    omega
  have hc' := hc Af h2
  refine .intro hc'.1 (fun w hs => (hc'.2 E (Ar ++ St.hall ⟨[], bl, pr ++ [] :: po⟩) w ?_ (hp _ fun p hp' => List.mem_append_right _ (by rw [e2] at hp'; exact hp'))).mono ?_)
  · exact (e1 ▸ hs).perm (perm A Af Ar h1)
  · rintro e w' ⟨v, A', k1, ⟨k2, k3⟩, k4⟩
    refine ⟨v, bl, setR R i (A' ++ Ar), k1, ?_, rfl, hk v _ k2 (h3 y' A' _ k3 (.refl _))⟩
    rw [e2]
    exact k4.perm (perm (A' ++ Ar) A' Ar (.refl _)).symm

/-- a call that gives no memory; of its answer Q is known -/
theorem call_q {Q : Value → Prop} {f : FuncId} {args : List Value} {bl : List Blk} {R : List Hp} {pre : Hp → Prop} {K : Value → List Blk → List Hp → Prop} (hc : Ct P f args [] pre (fun v A => Q v ∧ A = []))
    (hp : pre (St.hall ⟨[], bl, R⟩)) (hk : ∀ v, Q v → K v bl R) : VCcall P E f args ⟨[], bl, R⟩ K := by
  refine call_newP hc hp ?_
  rintro v A ⟨h, rfl⟩
  exact ⟨[], by simp, hk v h⟩

/-- a plain part is stored -/
theorem Fld.st {h : Gt β} {get : α → β} {upd : α → β → α} {d : Nat} (F : Fld g h get upd d) {x : α} {v : β} {l : List Value} (hpl : ∀ l y A, h.ow l y A → A = []) (ho : h.ow l v []) :
    ∀ lx Ax, g.ow lx x Ax → d + l.length ≤ g.size ∧ ∃ Ay, g.ow (setAt lx d l) (upd x v) Ay ∧ Ax.Perm Ay := by
  intro lx Ax hx
  have e := h.len (h.owrd ho)
  obtain ⟨Af, Ar, h1, h2, h3⟩ := F.ow hx
  have := hpl _ _ _ h2
  subst this
  exact ⟨by rw [e]; exact F.fit, _, h3 l v [] ho, h1⟩

/-- a plain part of an element of an owned slice is stored -/
theorem gstoreN {h : Gt β} {get : α → β} {upd : α → β → α} {d : Nat} (F : Fld g h get upd d) (z : α) (k : Nat) {R : List Hp} {A : Hp} {base : Option Addr} {m cap : Nat} {xs : List α} {i : Int} {b o off : Nat} {l : List Value} {G : List Hp → Prop} (j : Nat) (hj : nthR R j = some A) (hk : i = (k : Int)) (ho : (gSl T g).ow [.slice base m cap] xs A)
    (h0 : 0 ≤ i) (h1 : i < xs.length) (hb : base = some ⟨b, o, none⟩) (hoff : off = o + i.toNat * g.size + d) (hpl : ∀ l y A, h.ow l y A → A = []) (y : β) (hy : h.ow l y [])
    (c : ∀ A', (gSl T g).ow [.slice base m cap] (xs.set k (upd (xs[k]?.getD z) y)) A' → G (setR R j A')) : VCstore R b off l G := by
  subst hk
  refine gstore j hj ho h0 h1 hb d hoff (upd (xs[k]?.getD z) y) ?_ fun A' _ o => c A' (by simpa using o)
  have : xs[(k : Int).toNat]'(by omega) = xs[k]?.getD z := by
    have hlt : k < xs.length := by omega
    simp [List.getElem?_eq_getElem hlt]
  rw [this]
  exact F.st hpl hy

theorem gstore1N (k : Nat) {R : List Hp} (A B : Hp) (Rr : List Hp) {base : Option Addr} {m cap : Nat} {xs : List α} {i : Int} {b o off : Nat} {l : List Value} {G : List Hp → Prop} (hR : RLe R (A :: B :: Rr)) (hk : i = (k : Int)) (h : (gSl T g).ow [.slice base m cap] xs A)
    (h0 : 0 ≤ i) (h1 : i < xs.length) (hb : base = some ⟨b, o, none⟩) (hoff : off = o + i.toNat * g.size) (y : α) (hy : g.ow l y B)
    (c : ∀ A', (gSl T g).ow [.slice base m cap] (xs.set k y) A' → G (A' :: Rr)) : VCstore R b off l G := by
  subst hk
  exact gstore1 A B Rr hR h h0 h1 hb hoff y hy fun A' o => c A' (by simpa using o)

theorem CtR.introP (hΓ : TyOk P Γ) {f : FuncId} {fn : Func} (L : List Hp) (hf : P.funcs[f]? = some fn) (hn : decide (fn.name = "runtime.NumGoroutine") = false) (hb : fn.body.isSome = true) {args : List Value} (ha : Nat.ble args.length fn.ntmps = true) {A0 : Hp} {pre : Hp → Prop} {post : Value → Hp → Prop}
    (hL : A0.Perm L.flatten) (h : ∀ E H, pre H → exFn P E Γ fn args (L ++ [H]) fun v bl R => ∃ A, post v A ∧ RLe (bl.map Blk.ent :: R) [A, H]) : CtR P f args A0 pre post := by
  have := CtR.intro (A0 := L.flatten) (post := post) hΓ L hf hn hb ha rfl h
  refine ⟨this.1, fun E H w hs hp => this.2 E H w (hs.perm (hL.append_right H)) hp⟩

/-- an owned slice whose element number k is x -/
def OwE (T : TypeId) (g : Gt α) (base : Option Addr) (m cap : Nat) (xs : List α) (k : Nat) (x : α) (A : Hp) : Prop :=
  k < xs.length ∧ (gSl T g).ow [.slice base m cap] (xs.set k x) A

theorem OwE.mk {base : Option Addr} {m cap : Nat} {xs : List α} {A : Hp} (z : α) (k : Nat) (h : (gSl T g).ow [.slice base m cap] xs A) (hk : k < xs.length) :
    ∃ x, x = xs[k]?.getD z ∧ OwE T g base m cap xs k x A := by
  refine ⟨_, rfl, hk, ?_⟩
  have : xs.set k (xs[k]?.getD z) = xs := by
    rw [List.getElem?_eq_getElem hk, Option.getD_some, List.set_getElem_self]
  rw [this]; exact h

theorem oe_idx {base : Option Addr} {m cap : Nat} {xs : List α} {A : Hp} {k : Nat} {x : α} {i : Int} {F : Nat → Nat → Prop} (h : OwE T g base m cap xs k x A) (hk : i = (k : Int)) (c : ∀ b o, base = some ⟨b, o, none⟩ → F b o) : VCidx base m i F := by
  obtain ⟨h1, h2⟩ := h
  subst hk
  exact idx_rd ((gSl T g).owrd h2) (by omega) (by rw [List.length_set]; omega) c

theorem oe_load {h : Gt β} {get : α → β} {upd : α → β → α} {d : Nat} (F : Fld g h get upd d) {H' A : Hp} {base : Option Addr} {m cap : Nat} {xs : List α} {k : Nat} {x : α} {i : Int} {b o off : Nat} {G : List Value → Prop} (ho : OwE T g base m cap xs k x A) (hk : i = (k : Int))
    (hb : base = some ⟨b, o, none⟩) (hoff : off = o + i.toNat * g.size + d) (sub : ∀ p ∈ A, p ∈ H')
    (c : ∀ l, h.rd A l (get x) → Foc h l (get x) A (fun y A' => ∃ x', x' = upd x y ∧ OwE T g base m cap xs k x' A') → G l) : VCload H' b off h.size G := by
  obtain ⟨h1, h2⟩ := ho
  subst hk
  have e : ∀ y : α, (xs.set k y)[(k : Int).toNat]?.getD x = y := fun y => by simp [h1]
  refine load_foc F x h2 (by omega) (by rw [List.length_set]; omega) hb hoff sub fun l hl hf => ?_
  rw [e] at hl hf
  refine c l hl ?_
  obtain ⟨Af, Ar, k1, k2, k3⟩ := hf
  refine ⟨Af, Ar, k1, k2, fun y' B A' hB hp => ⟨_, rfl, h1, ?_⟩⟩
  have := k3 y' B A' hB hp
  simp only [Int.toNat_natCast, List.set_set] at this
  exact this

theorem oe_store {h : Gt β} {get : α → β} {upd : α → β → α} {d : Nat} (F : Fld g h get upd d) {R : List Hp} {A : Hp} {base : Option Addr} {m cap : Nat} {xs : List α} {k : Nat} {x : α} {i : Int} {b o off : Nat} {l : List Value} {G : List Hp → Prop} (j : Nat) (hj : nthR R j = some A) (ho : OwE T g base m cap xs k x A) (hk : i = (k : Int))
    (hb : base = some ⟨b, o, none⟩) (hoff : off = o + i.toNat * g.size + d) (hpl : ∀ l y A, h.ow l y A → A = []) (y : β) (hy : h.ow l y [])
    (c : ∀ x' A', x' = upd x y → OwE T g base m cap xs k x' A' → G (setR R j A')) : VCstore R b off l G := by
  obtain ⟨h1, h2⟩ := ho
  have e : ∀ y : α, (xs.set k y)[k]?.getD x = y := fun y => by simp [h1]
  refine gstoreN F x k j hj hk h2 (by omega) (by rw [List.length_set]; omega) hb hoff hpl y hy fun A' o => c _ A' rfl ⟨h1, ?_⟩
  rw [List.set_set, e] at o
  exact o

theorem OwE.done {base : Option Addr} {m cap : Nat} {xs : List α} {A : Hp} {k : Nat} {x : α} {ys : List α} (h : OwE T g base m cap xs k x A) (e : xs.set k x = ys) : (gSl T g).ow [.slice base m cap] ys A := e ▸ h.2

theorem loop_stepA {ε : Type} {st' : St} {I : ε → Prop} {μ : ε → Nat} {J : ε → St} {m0 : Nat} (x : ε) (h3 : RLe st'.R (J x).R) (h1 : FrLe st'.bl (J x).bl st'.fr (J x).fr) (h2 : BlLe st'.bl (J x).bl) (h4 : I x) (h5 : μ x < m0) :
    ∃ x', I x' ∧ μ x' < m0 ∧ Weak st' (J x') := ⟨x, h4, h5, h1, h2, h3⟩
theorem join_stepA {ε : Type} {st' : St} {I : ε → Prop} {J : ε → St} (x : ε) (h3 : RLe st'.R (J x).R) (h1 : FrLe st'.bl (J x).bl st'.fr (J x).fr) (h2 : BlLe st'.bl (J x).bl) (h4 : I x) :
    ∃ x', I x' ∧ Weak st' (J x') := ⟨x, h4, h1, h2, h3⟩
theorem keep_sub {fr fr' : Fr} {bl bl' : List Blk} {R R' : List Hp} (h1 : ∀ b ∈ bl, b ∈ bl') (h2 : ∀ A ∈ R, A ∈ R') : ∀ p ∈ St.hall ⟨fr, bl, R⟩, p ∈ St.hall ⟨fr', bl', R'⟩ := by
  intro p hp
  simp only [St.hall, List.mem_append, List.mem_map, List.mem_flatten] at hp ⊢
  rcases hp with ⟨b, hb, rfl⟩ | ⟨A, hA, hp⟩
  · exact .inl ⟨b, h1 b hb, rfl⟩
  · exact .inr ⟨A, h2 A hA, hp⟩
theorem gI_pl : ∀ l y A, gI.ow l y A → A = [] := fun _ _ _ h => h.2.2
theorem gB_pl : ∀ l y A, gB.ow l y A → A = [] := fun _ _ _ h => h.2.2
theorem gY_pl : ∀ l y A, gY.ow l y A → A = [] := fun _ _ _ h => h.2.2
theorem fl_pl {f : Fl α} {mk : Int → α} {sz : α → Nat} : ∀ l y A, (f.gt mk sz).ow l y A → A = [] := fun _ _ _ h => h.2.2

theorem mkL_get (g : Gt α) (z : α) (xs : List α) (k0 : Int) (i : Nat) (h : i < xs.length) : (mkL g k0 xs)[i]?.getD z = g.mark (k0 + cntL g (xs.take i)) (xs[i]?.getD z) := by
  have e : xs = xs.take i ++ xs[i] :: xs.drop (i + 1) := by
    rw [← List.drop_eq_getElem_cons h, List.take_append_drop]
  have e1 : (mkL g k0 (xs.take i)).length = i := by rw [mkL_len, List.length_take]; omega
  conv => lhs; rw [e, mkL_append]
  rw [List.getElem?_append_right (by omega), e1, Nat.sub_self, List.getElem?_eq_getElem h, Option.getD_some]
  simp [mkL]
theorem getD_set {xs : List α} {i : Nat} {y z : α} (h : i < xs.length) : (xs.set i y)[i]?.getD z = y := by
  simp [h]
theorem mk_step (g : Gt α) (z : α) (xs : List α) (k0 : Int) (i : Nat) (h : i < xs.length) :
    (mkL g k0 (xs.take i) ++ xs.drop i).set i (g.mark (k0 + cntL g (xs.take i)) (xs[i]?.getD z)) = mkL g k0 (xs.take (i + 1)) ++ xs.drop (i + 1) := by
  have e : (mkL g k0 (xs.take i)).length = i := by rw [mkL_len, List.length_take]; omega
  rw [List.set_append_right _ _ (by omega), e, Nat.sub_self, List.drop_eq_getElem_cons h, List.set_cons_zero, List.getElem?_eq_getElem h, Option.getD_some, ← List.take_append_getElem h, mkL_append]
  simp [mkL]
theorem mk_get (g : Gt α) (z : α) (xs : List α) (k0 : Int) (i : Nat) (h : i < xs.length) : (mkL g k0 (xs.take i) ++ xs.drop i)[i]?.getD z = xs[i]?.getD z := by
  have e : (mkL g k0 (xs.take i)).length = i := by rw [mkL_len, List.length_take]; omega
  rw [List.getElem?_append_right (by omega), e, Nat.sub_self, List.getElem?_drop, Nat.add_zero]
theorem mk_len (g : Gt α) (xs : List α) (k0 : Int) (i : Nat) (h : i ≤ xs.length) : (mkL g k0 (xs.take i) ++ xs.drop i).length = xs.length := by
  rw [List.length_append, mkL_len, List.length_take, List.length_drop]; omega
theorem cntL_step (g : Gt α) (xs : List α) (k : Nat) (z : α) (h : k < xs.length) : cntL g (xs.take (k + 1)) = cntL g (xs.take k) + g.cnt (xs[k]?.getD z) := by
  rw [← List.take_append_getElem h, cntL_append, List.getElem?_eq_getElem h]; rfl
theorem cntL_one (g : Gt α) (h : ∀ x, g.cnt x = 1) : ∀ xs, cntL g xs = xs.length
  | [] => rfl
  | x :: r => by rw [cntL, h, cntL_one g h r, List.length_cons]; omega
theorem cntL_take_le (g : Gt α) (xs : List α) (k : Nat) : cntL g (xs.take k) ≤ cntL g xs := by
  conv => rhs; rw [← List.take_append_drop k xs]
  rw [cntL_append]; omega
end
end Go.SX
