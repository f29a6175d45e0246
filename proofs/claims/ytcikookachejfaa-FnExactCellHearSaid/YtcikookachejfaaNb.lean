/-
  Raw rows picked and put together. Conditions: none.
-/
import Derived.Test.YtcikookachejfaaSxI
--@dev import Derived.Test.YtcikookachejfaaSxWalk
namespace Go.SX

section
variable {α β : Type}

def zRaw (s : Nat) (hs : 0 < s) : RawC s := ⟨List.replicate s (.bool false), by simp, by
  clear hs
  induction s with
  | zero => rfl
  | succ s ih => rw [List.replicate_succ]; exact ih⟩
/-- elements as raw cells -/
def gRaw (s : Nat) (hs : 0 < s) : Gt (RawC s) := (flRaw s hs).gt fun _ => zRaw s hs

def pickL (p : α → Bool) : List β → List α → List β
  | l :: ls, x :: xs => if p x then l :: pickL p ls xs else pickL p ls xs
  | _, _ => []
theorem pickL_self (p : α → Bool) : ∀ xs : List α, pickL p xs xs = xs.filter p
  | [] => rfl
  | x :: xs => by
    unfold pickL
    cases h : p x with
    | true => rw [if_pos rfl, List.filter_cons_of_pos (by simpa using h), pickL_self p xs]
    | false => rw [if_neg (by simp), List.filter_cons_of_neg (by simp [h]), pickL_self p xs]
theorem pickL_len (p : α → Bool) : ∀ (ls : List β) (xs : List α), (pickL p ls xs).length ≤ ls.length
  | [], _ => by simp [pickL]
  | _ :: _, [] => by simp [pickL]
  | l :: ls, x :: xs => by
    unfold pickL
    have := pickL_len p ls xs
    split <;> simp <;> omega
theorem pickL_take {p : α → Bool} : ∀ {ls : List β} {xs : List α} {k : Nat} (d : β) (e : α), k < ls.length → k < xs.length →
    pickL p (ls.take (k + 1)) (xs.take (k + 1)) = pickL p (ls.take k) (xs.take k) ++ (if p (xs[k]?.getD e) then [ls[k]?.getD d] else [])
  | [], _, k, d, e, h, _ => by simp at h
  | _ :: _, [], k, d, e, _, h => by simp at h
  | l :: ls, x :: xs, 0, d, e, _, _ => by simp [pickL]
  | l :: ls, x :: xs, k + 1, d, e, h1, h2 => by
    have ih := pickL_take (p := p) (ls := ls) (xs := xs) (k := k) d e (by simpa using h1) (by simpa using h2)
    simp only [List.take_succ_cons, List.getElem?_cons_succ] at *
    unfold pickL
    split
    · rw [ih]; rfl
    · exact ih
theorem OwL.pick {g : Gt α} {ls : List (RawC g.size)} {xs : List α} {As : List Hp} (h : OwL g ls xs As) (p : α → Bool) : OwL g (pickL p ls xs) (xs.filter p) (pickL p As xs) := by
  induction h with
  | nil => exact .nil
  | cons h hr ih =>
    rename_i l x A ls xs As
    unfold pickL
    cases e : p x with
    | true => rw [List.filter_cons_of_pos (by simpa using e)]; exact .cons h ih
    | false => rw [List.filter_cons_of_neg (by simp [e])]; exact ih
/-- the heaplets of two picks that never meet -/
theorem pick_two {p q : α → Bool} (h : ∀ x, p x = true → q x = false) : ∀ (As : List Hp) (xs : List α), ∃ L, As.flatten.Perm ((pickL p As xs).flatten ++ ((pickL q As xs).flatten ++ L))
  | [], _ => ⟨[], by simp [pickL]⟩
  | A :: As, [] => ⟨(A :: As).flatten, by simp [pickL]⟩
  | A :: As, x :: xs => by
    obtain ⟨L, hL⟩ := pick_two h As xs
    unfold pickL
    cases e : p x with
    | true =>
      rw [h x e]
      refine ⟨L, ?_⟩
      simp only [if_true, Bool.false_eq_true, if_false, List.flatten_cons, List.append_assoc]
      exact hL.append_left A
    | false =>
      cases e2 : q x with
      | true =>
        refine ⟨L, ?_⟩
        simp only [if_true, Bool.false_eq_true, if_false, List.flatten_cons]
        refine (hL.append_left A).trans ?_
        simp only [List.append_assoc]
        rw [← List.append_assoc, ← List.append_assoc (pickL p As xs).flatten A]
        exact List.perm_append_comm.append_right _
      | false =>
        refine ⟨A ++ L, ?_⟩
        simp only [Bool.false_eq_true, if_false, List.flatten_cons]
        refine (hL.append_left A).trans ?_
        rw [← List.append_assoc, ← List.append_assoc, ← List.append_assoc, ← List.append_assoc]
        refine List.Perm.append_right L ?_
        rw [List.append_assoc]
        exact List.perm_append_comm
/-- an element as raw cells, beside what it stands for -/
def rpZip (g : Gt α) : Rp (RawC g.size × α) where
  size := g.size
  rd H l z := l = z.1.1 ∧ g.rd H l z.2
  mono hh h := ⟨h.1, g.mono hh h.2⟩
  len h := g.len h.2
instance (s : Nat) : Inhabited (RawC s) := ⟨⟨List.replicate s (.bool false), by simp, by
  induction s with
  | zero => rfl
  | succ s ih => rw [List.replicate_succ]; exact ih⟩⟩
theorem zip_rd {g : Gt α} {T : TypeId} {v : Value} {ls : List (RawC g.size)} {xs : List α} {A A0 : Hp} {As : List Hp} (ho : Ow (flRaw g.size g.pos) T v ls A0) (hp : A.Perm (A0 ++ As.flatten)) (hl : OwL g ls xs As) : (rpSl (rpZip g)).rd A [v] (ls.zip xs) := by
  obtain ⟨base, cap, e, h1, h2⟩ := ho.rd
  obtain ⟨e1, e2⟩ := hl.len
  have e3 : (ls.zip xs).length = ls.length := by rw [List.length_zip]; omega
  refine ⟨base, cap, by rw [e3]; exact e, by rw [e3]; exact h1, fun i hi => ?_⟩
  obtain ⟨b, o, l', h3, h4, h5⟩ := h2 i (by omega)
  have hsub : ∀ p ∈ A0, p ∈ A := fun p hp' => hp.mem_iff.2 (List.mem_append_left _ hp')
  refine ⟨b, o, l', h3, h4.mono hsub, ?_⟩
  have h6 : l' = (ls[i]'(by omega)).1 := h5.1
  rw [List.getElem_zip]
  refine ⟨h6, ?_⟩
  rw [h6]
  refine g.mono (fun p hp' => hp.mem_iff.2 (List.mem_append_right _ ?_)) (g.owrd (hl.get i (by omega) (by omega) (by omega)))
  exact List.mem_flatten.2 ⟨_, List.getElem_mem _, hp'⟩
theorem zip_pick {g : Gt α} (p : α → Bool) : ∀ (ls : List (RawC g.size)) (xs : List α), ((ls.zip xs).filter (fun z => p z.2)).map (·.1) = pickL p ls xs
  | [], _ => by simp [pickL]
  | _ :: _, [] => by simp [pickL]
  | l :: ls, x :: xs => by
    rw [List.zip_cons_cons]
    unfold pickL
    cases e : p x with
    | true => rw [List.filter_cons_of_pos (by simpa using e), List.map_cons, zip_pick p ls xs]; rfl
    | false => rw [List.filter_cons_of_neg (by simp [e]), zip_pick p ls xs]; rfl
end
end Go.SX
