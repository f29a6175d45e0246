/-
  The executor of Sx.lean is sound: its operations. Conditions: none.
-/
import Derived.Test.YtcnclhjhnjpeiaaDoorSxS
namespace Go.SX

section
variable {P : Program} {E : World} {Γ : Ty} {n : Nat} {fr : Fr} {bl : List Blk} {R : List Hp} {a : Act} {w : World}

theorem den_const (c : Value) (bl : List Blk) : (constSV c).den bl = c ∧ (constSV c).ok bl := by
  unfold constSV
  split <;> exact ⟨rfl, trivial⟩

theorem getK_sound (hr : Rel E n ⟨fr, bl, R⟩ a w) {x : Operand} {K : SV → Prop} (h : getK fr x K) : ∃ s, a.eval x = s.den bl ∧ s.ok bl ∧ K s := by
  unfold getK at h
  split at h
  · rename_i t
    split at h
    · rename_i s hs
      obtain ⟨h1, h2⟩ := hr.val _ _ hs
      refine ⟨s, ?_, h2, h⟩
      show a.tmps.getD t undef = _
      rw [Array.getD_eq_getD_getElem?, h1]; rfl
    · exact h.elim
  · exact ⟨_, (den_const _ _).1.symm, (den_const _ _).2, h⟩
  · exact ⟨.v _, rfl, trivial, h⟩
  · exact ⟨.v _, rfl, trivial, h⟩

theorem getK_uni {x : Operand} {K : SV → Prop} (h : getK fr x K) : ∃ s, K s ∧ ∀ a w, Rel E n ⟨fr, bl, R⟩ a w → a.eval x = s.den bl ∧ s.ok bl := by
  unfold getK at h
  split at h
  · rename_i t
    split at h
    · rename_i s hs
      refine ⟨s, h, fun a w hr => ?_⟩
      obtain ⟨h1, h2⟩ := hr.val _ _ hs
      refine ⟨?_, h2⟩
      show a.tmps.getD t undef = _
      rw [Array.getD_eq_getD_getElem?, h1]; rfl
    · exact h.elim
  · exact ⟨_, h, fun a w _ => ⟨(den_const _ _).1.symm, (den_const _ _).2⟩⟩
  · exact ⟨.v _, h, fun a w _ => ⟨rfl, trivial⟩⟩
  · exact ⟨.v _, h, fun a w _ => ⟨rfl, trivial⟩⟩

theorem putK_sound (hr : Rel E n ⟨fr, bl, R⟩ a w) {dst : Option Nat} {s : SV} (hs : s.ok bl) {K : Fr → Prop} (h : putK n fr dst s K) :
    ∃ fr', K fr' ∧ Rel E n ⟨fr', bl, R⟩ (a.put dst (s.den bl)) w := by
  unfold putK at h
  split at h
  · exact ⟨fr, h, hr⟩
  · rename_i d
    split at h
    · rename_i hd
      refine ⟨_, h, ?_, hr.defers, ?_, hr.sat⟩
      · simp only [Act.put, Array.size_setIfInBounds]; exact hr.size
      · intro k sv hk
        have hd' : d < a.tmps.size := by rw [hr.size]; exact of_decide_eq_true (by simpa using hd)
        simp only [look] at hk
        simp only [Act.put]
        split at hk
        · rename_i hb
          have := Nat.eq_of_beq_eq_true hb
          subst this
          cases hk
          exact ⟨by simp [hd'], hs⟩
        · rename_i hb
          have hne : d ≠ k := fun e => by subst e; simp at hb
          rw [Array.getElem?_setIfInBounds_ne hne]
          exact hr.val _ _ hk
    · exact h.elim

theorem cellsK_sound {s : SV} {K : List Value → Prop} (h : cellsK bl s K) : K (s.den bl).cells.toList := by
  unfold cellsK at h
  split at h
  · exact h
  · rename_i x hx
    have : x.cells = #[x] := by
      unfold Value.cells
      split
      · rename_i cs; exact (hx cs.toList rfl).elim
      · rfl
    simp only [SV.den, this]; exact h
  · exact h
  · exact h

theorem cellsK_nil {x : Value} {K : List Value → Prop} (h : cellsK [] (.v x) K) : K x.cells.toList := cellsK_sound (bl := []) h

theorem denK_sound {s : SV} {K : Value → Prop} (h : denK bl s K) : K (s.den bl) := by
  unfold denK at h
  split at h <;> exact h

theorem getsK_sound (hr : Rel E n ⟨fr, bl, R⟩ a w) : ∀ {l : List Operand} {K : List Value → Prop}, getsK fr bl l K → K (l.map a.eval)
  | [], _, h => h
  | x :: r, K, h => by
    obtain ⟨s, h1, _, h2⟩ := getK_sound hr h
    have h3 := denK_sound h2
    have h4 := getsK_sound hr h3
    simp only [List.map_cons, h1]
    exact h4

theorem getsK_uni : ∀ {l : List Operand} {K : List Value → Prop}, getsK fr bl l K → ∃ vs, K vs ∧ ∀ a w, Rel E n ⟨fr, bl, R⟩ a w → l.map a.eval = vs
  | [], _, h => ⟨[], h, fun _ _ _ => rfl⟩
  | x :: r, K, h => by
    obtain ⟨s, h1, h2⟩ := getK_uni (E := E) (n := n) (bl := bl) (R := R) h
    obtain ⟨vs, h3, h4⟩ := getsK_uni (denK_sound h1)
    exact ⟨_, h3, fun a w hr => by rw [List.map_cons, (h2 a w hr).1, h4 a w hr]⟩

theorem pushBlk_eq (x : Blk) : ∀ bl, pushBlk bl x = (bl ++ [x], bl.length)
  | [] => rfl
  | b :: r => by simp [pushBlk, pushBlk_eq x r]

theorem idOf_append (B : List Blk) : ∀ (A : List Blk) (h : Nat), h < A.length → idOf (A ++ B) h = idOf A h
  | [], h, hl => by simp at hl
  | b :: r, 0, _ => rfl
  | b :: r, h + 1, hl => by simp only [List.cons_append, idOf]; exact idOf_append B r h (by simpa using hl)
theorem idOf_at (B : List Blk) (b : Blk) : ∀ (A : List Blk), idOf (A ++ b :: B) A.length = b.id
  | [] => rfl
  | _ :: r => by simp only [List.cons_append, List.length_cons, idOf]; exact idOf_at B b r

theorem idOf_map : ∀ (A B : List Blk), A.map Blk.id = B.map Blk.id → ∀ h, idOf A h = idOf B h
  | [], [], _, _ => rfl
  | [], _ :: _, e, _ => by simp at e
  | _ :: _, [], e, _ => by simp at e
  | b :: r, b' :: r', e, 0 => by simp at e; exact e.1
  | b :: r, b' :: r', e, h + 1 => by simp at e; exact idOf_map r r' e.2 h

theorem den_push {s : SV} (hs : s.ok bl) (x : Blk) : s.den (bl ++ [x]) = s.den bl ∧ s.ok (bl ++ [x]) := by
  cases s with
  | v y => exact ⟨rfl, trivial⟩
  | b t => exact ⟨rfl, trivial⟩
  | p h off =>
    have hs' : h < bl.length := hs
    refine ⟨?_, ?_⟩
    · simp only [SV.den, idOf_append [x] bl h hs']
    · show h < (bl ++ [x]).length
      simp; omega
theorem den_ids {s : SV} {bl' : List Blk} (he : bl'.map Blk.id = bl.map Blk.id) (hs : s.ok bl) : s.den bl' = s.den bl ∧ s.ok bl' := by
  cases s with
  | v y => exact ⟨rfl, trivial⟩
  | b t => exact ⟨rfl, trivial⟩
  | p h off =>
    refine ⟨?_, ?_⟩
    · simp only [SV.den, idOf_map _ _ he h]
    · show h < bl'.length
      have : bl'.length = bl.length := by simpa using congrArg List.length he
      rw [this]; exact hs

theorem Rel.push (hr : Rel E n ⟨fr, bl, R⟩ a w) (cs : List Value) (t : TypeId) : Rel E n ⟨fr, bl ++ [⟨w.heap.size, cs, t⟩], R⟩ a (w.alloc (.cells ⟨cs⟩ t)) := by
  refine ⟨hr.size, hr.defers, fun k sv hk => ?_, ?_⟩
  · obtain ⟨h1, h2⟩ := hr.val k sv hk
    obtain ⟨h3, h4⟩ := den_push h2 ⟨w.heap.size, cs, t⟩
    exact ⟨by simp only; rw [h3]; exact h1, h4⟩
  · refine (hr.sat.push (.cells ⟨cs⟩ t)).perm ?_
    simp only [St.hall, List.map_append, List.map_cons, List.map_nil, List.append_assoc, Blk.ent]
    exact (List.perm_middle).symm

theorem Rel.ids (hr : Rel E n ⟨fr, bl, R⟩ a w) {bl' : List Blk} {R' : List Hp} {w' : World} (he : bl'.map Blk.id = bl.map Blk.id) (hs : Sat E (St.hall ⟨[], bl', R'⟩) w') :
    Rel E n ⟨fr, bl', R'⟩ a w' := by
  refine ⟨hr.size, hr.defers, fun k sv hk => ?_, hs⟩
  obtain ⟨h1, h2⟩ := hr.val k sv hk
  obtain ⟨h3, h4⟩ := den_ids he h2
  exact ⟨by simp only; rw [h3]; exact h1, h4⟩

theorem nthBlk_spec : ∀ {bl : List Blk} {h : Nat} {b : Blk}, nthBlk bl h = some b → ∃ A B, bl = A ++ b :: B ∧ A.length = h
  | [], _, _, e => by simp [nthBlk] at e
  | x :: r, 0, b, e => by simp [nthBlk] at e; subst e; exact ⟨[], r, rfl, rfl⟩
  | x :: r, h + 1, b, e => by
    obtain ⟨A, B, h1, h2⟩ := nthBlk_spec (bl := r) (h := h) e
    exact ⟨x :: A, B, by rw [h1]; rfl, by simp [h2]⟩

theorem setBlk_spec (b : Blk) (B : List Blk) (cs : List Value) : ∀ (A : List Blk) (bl' : List Blk), setBlk (A ++ b :: B) A.length cs = some bl' → bl' = A ++ ⟨b.id, cs, b.ty⟩ :: B
  | [], bl', e => by cases b; simp [setBlk] at e; exact e.symm
  | x :: A, bl', e => by
    simp only [List.cons_append, List.length_cons, setBlk] at e
    split at e
    · rename_i r' hr'
      cases e
      rw [setBlk_spec b B cs A r' hr']; rfl
    · cases e

theorem takeAt_spec : ∀ {cs : List Value} {off m : Nat} {l : List Value}, takeAt cs off m = some l → l.length = m ∧ ∀ i, i < m → cs[off + i]? = l[i]?
  | cs, 0, 0, l, e => by cases cs <;> simp [takeAt] at e <;> subst e <;> exact ⟨rfl, fun i hi => by omega⟩
  | [], 0, m + 1, l, e => by simp [takeAt] at e
  | c :: r, 0, m + 1, l, e => by
    simp only [takeAt] at e
    split at e
    · rename_i l' hl'
      cases e
      obtain ⟨h1, h2⟩ := takeAt_spec hl'
      refine ⟨by simp [h1], fun i hi => ?_⟩
      cases i with
      | zero => simp
      | succ i =>
        have := h2 i (by omega)
        simp only [Nat.zero_add] at this ⊢
        simpa using this
    · cases e
  | [], off + 1, m, l, e => by cases m <;> simp [takeAt] at e
  | c :: r, off + 1, m, l, e => by
    have e' : takeAt r off m = some l := by cases m <;> simpa [takeAt] using e
    obtain ⟨h1, h2⟩ := takeAt_spec e'
    refine ⟨h1, fun i hi => ?_⟩
    have := h2 i hi
    rw [show off + 1 + i = (off + i) + 1 by omega, List.getElem?_cons_succ]
    exact this

theorem setAt_cons (c : Value) : ∀ (l : List Value) (r : List Value) (off : Nat), setAt (c :: r) (off + 1) l = c :: setAt r off l
  | [], _, _ => rfl
  | x :: l, r, off => by simp only [setAt, List.set_cons_succ]; exact setAt_cons c l _ _

theorem layAt_spec : ∀ {cs : List Value} {off : Nat} {l cs' : List Value}, layAt cs off l = some cs' → off + l.length ≤ cs.length ∧ cs' = setAt cs off l
  | cs, 0, [], cs', e => by cases cs <;> simp [layAt] at e <;> subst e <;> simp [setAt]
  | [], 0, x :: l, cs', e => by simp [layAt] at e
  | c :: r, 0, x :: l, cs', e => by
    simp only [layAt] at e
    split at e
    · rename_i r' hr'
      cases e
      obtain ⟨h1, h2⟩ := layAt_spec hr'
      refine ⟨by simp at h1 ⊢; omega, ?_⟩
      simp only [setAt, List.set_cons_zero]
      rw [setAt_cons, ← h2]
    · cases e
  | [], off + 1, l, cs', e => by cases l <;> simp [layAt] at e
  | c :: r, off + 1, l, cs', e => by
    have e' : ∃ r', layAt r off l = some r' ∧ cs' = c :: r' := by
      cases l <;>
      · simp only [layAt] at e
        split at e
        · rename_i r' hr'
          cases e; exact ⟨r', hr', rfl⟩
        · cases e
    obtain ⟨r', hr', rfl⟩ := e'
    obtain ⟨h1, h2⟩ := layAt_spec hr'
    refine ⟨by simp at h1 ⊢; omega, ?_⟩
    rw [setAt_cons, ← h2]

theorem lenIs_spec : ∀ {l : List Value} {m : Nat}, lenIs l m = true → l.length = m
  | [], 0, _ => rfl
  | [], m + 1, h => by simp [lenIs] at h
  | _ :: r, 0, h => by simp [lenIs] at h
  | _ :: r, m + 1, h => by simp only [lenIs] at h; simp [lenIs_spec h]

/-- what is left behind an operation -/
abbrev Lands (E : World) (n : Nat) (K : St → Prop) (a : Act) (w : World) : Prop := ∃ st, Rel E n st a w ∧ K st

theorem wp_value {o : Oper} {v : Value} {w' : World} {s : SV} {K : St → Prop} {Q : Exit → Act → World → Prop}
    (hrun : (execOp a.eval o).run P w = .ok (.value v) w') (hr : Rel E n ⟨fr, bl, R⟩ a w') (hv : v = s.den bl) (hs : s.ok bl)
    (h : putK n fr o.dst s fun fr => K ⟨fr, bl, R⟩) : o.wp P a w (Lands E n K) Q := by
  unfold Oper.wp
  rw [hrun, Oper.upon_value, hv]
  obtain ⟨fr', h1, h2⟩ := putK_sound hr hs h
  exact ⟨_, h2, h1⟩

theorem wp_none {o : Oper} {w' : World} {st : St} {K : St → Prop} {Q : Exit → Act → World → Prop}
    (hrun : (execOp a.eval o).run P w = .ok .skip w') (hd : o.dst = none) (hr : Rel E n st a w') (h : K st) : o.wp P a w (Lands E n K) Q := by
  unfold Oper.wp
  rw [hrun, Oper.upon_skip, hd]
  exact ⟨_, hr, h⟩

end
end Go.SX
