/-
  Statements whose order of operations is left open: one order serves. Conditions: none.
-/
import Derived.Test.YtcnclhjhnjpeiaaDoorSxY
import Derived.Orders
import Derived.OrdersHeld
namespace Go.SX

/-- An order to walk: q: an operation that only reads, taken first; f: the only one that may come up; tl: likewise, and from here on all reading is done; alt: one of several that may come up, the others behind it. -/
inductive OT where
  | nil
  | q (i : Nat) (t : OT)
  | f (i : Nat) (t : OT)
  | tl (i : Nat) (t : OT)
  | alt (i : Nat) (t rest : OT)
  | hd (r : OT)
  /-- read ahead of its turn, out of the known blocks alone -/
  | qb (i : Nat) (t : OT)

def isPure : Op → Bool
  | .move _ => true
  | .assign _ => true
  | .nilCheck _ => true
  | .pick .. => true
  | .binOp .. => true
  | .unOp .. => true
  | .load .. => true
  | .fieldAddr .. => true
  | .build .. => true
  | .extract .. => true
  | .field .. => true
  | .convert .. => true
  | .indexAddr .. => true
  | .index .. => true
  | .slice .. => true
  | .call ⟨.builtin .len, _, _⟩ => true
  | _ => false

/-- what may be walked in its turn without a look at what it keeps -/
def isPureF : Op → Bool
  | .convert .. => false
  | o => isPure o

/-- what waits, straight or through others, for i -/
def behind (ops : Array Oper) (i : Nat) : List Nat :=
  (List.range ops.size).foldl (fun B k => match ops[k]? with
    | some o => if (o.after.any fun e => Region.binds .any e && (e.on == i || B.contains e.on)) then k :: B else B
    | none => B) []
def behindOk (ops : Array Oper) (i : Nat) (L : Array Bool) (B : List Nat) : Bool :=
  B.all fun k => !L.getD k true && match ops[k]? with
    | some o => o.after.any fun e => Region.binds .any e && (e.on == i || B.contains e.on)
    | none => false
/-- operations that reckon an address or move a value: memory plays no part -/
def isAddr : Op → Bool
  | .move _ => true
  | .assign _ => true
  | .nilCheck _ => true
  | .fieldAddr .. => true
  | .extract .. => true
  | .binOp .. => true
  | .unOp .. => true
  | _ => false
def waitsOn (ops : Array Oper) (t0 : Option Nat) (i : Nat) (L : Array Bool) : Bool :=
  match t0 with
  | none => true
  | some t => (behind ops i).contains t && behindOk ops i L (behind ops i)
theorem behindOk_spec {ops : Array Oper} {i : Nat} {L : Array Bool} {B : List Nat} (h : behindOk ops i L B = true) :
    ∀ k ∈ B, L.getD k true = false ∧ ∃ o, ops[k]? = some o ∧ ∃ e ∈ o.after, Region.binds .any e = true ∧ (e.on = i ∨ e.on ∈ B) := by
  intro k hk
  have h1 := List.all_eq_true.1 h k hk
  simp only [Bool.and_eq_true, Bool.not_eq_true'] at h1
  refine ⟨h1.1, ?_⟩
  have h2 := h1.2
  split at h2
  · rename_i o ho
    rw [Array.any_eq_true] at h2
    obtain ⟨j, hj, h2⟩ := h2
    simp only [Bool.and_eq_true, Bool.or_eq_true, beq_iff_eq, List.contains_iff_mem] at h2
    exact ⟨o, ho, _, Array.getElem_mem hj, h2.1, h2.2⟩
  · cases h2

def altIdx : OT → List Nat
  | .alt i _ rest => i :: altIdx rest
  | _ => []

mutual
def otOk (ops : Array Oper) (t0 : Option Nat) : OT → Array Bool → Bool → Bool
  | .nil, L, _ => (Region.ready .any ops L).isEmpty
  | .q i t, L, tail => Region.free .any ops L i && (Region.ready .any ops L).contains i && !tail &&
      (match ops[i]? with | some o => isPure o.op && (isAddr o.op || waitsOn ops t0 i L) | none => false) && (t0 != some i) && otOk ops t0 t (L.setIfInBounds i true) tail
  | .qb i t, L, tail => Region.free .any ops L i && (Region.ready .any ops L).contains i && !tail &&
      (match ops[i]? with | some o => isPure o.op && waitsOn ops t0 i L | none => false) && (t0 != some i) && otOk ops t0 t (L.setIfInBounds i true) tail
  | .f i t, L, tail => (Region.ready .any ops L == [i]) && (t0 != some i || tail) && otOk ops t0 t (L.setIfInBounds i true) tail
  | .tl i t, L, _ => (Region.ready .any ops L == [i]) && (t0 == some i) && otOk ops t0 t (L.setIfInBounds i true) true
  | .alt _ _ _, _, _ => false
  | .hd r, L, tail => !tail && (Region.ready .any ops L == altIdx r) && !(altIdx r).isEmpty && otOkC ops t0 r L
def otOkC (ops : Array Oper) (t0 : Option Nat) : OT → Array Bool → Bool
  | .alt i t rest, L => (t0 != some i) && otOk ops t0 t (L.setIfInBounds i true) false && otOkC ops t0 rest L
  | _, _ => true
end

def nthO : List Oper → Nat → Option Oper
  | [], _ => none
  | b :: _, 0 => some b
  | _ :: r, i + 1 => nthO r i

section
variable (P : Program) (E : World) (Γ : Ty) (n : Nat)

def guardK (ops : List Oper) (g : Option (Nat × Bool)) (fr : Fr) (run skip : Fr → Prop) : Prop :=
  match g with
  | none => run fr
  | some (j, want) => match guardSlotL ops j with
    | none => False
    | some d => match look fr d with
      | some (.b b) => match decide (b = want) with
        | true => run fr
        | false => skip fr
      | some (.v (.bool b)) => VCsplit b (match want with
          | true => run ((d, .b true) :: fr)
          | false => skip ((d, .b true) :: fr)) (match want with
          | true => skip ((d, .b false) :: fr)
          | false => run ((d, .b false) :: fr))
      | some (.v (.tuple ⟨[]⟩)) => skip fr
      | _ => False

/-- what was known when something was last read ahead of its turn -/
def mmq : Bool → List Blk → List Hp → Option Hp → Option Hp
  | true, _, _, mm => mm
  | false, bl, R, _ => some (St.mk [] bl R).hall

/-- what an operation that is no mere reading must keep: what was known when something was read ahead -/
def keepK (tail : Bool) (mm : Option Hp) (st : St) (next : Prop) : Prop :=
  match tail with
  | true => next
  | false => match mm with
    | none => next
    | some q => VC (∀ p ∈ q, p ∈ st.hall) next

def mmSub (mm : Option Hp) (h : Hp) (next : Prop) : Prop :=
  match mm with
  | none => next
  | some q => VC (∀ p ∈ q, p ∈ h) next

mutual
/-- ops: the whole region -/
/- tail: all reading is done; mm: something was read from the memory ahead of its turn -/
def exOrd (ops : List Oper) : OT → Bool → Option Hp → St → (St → Prop) → Prop
  | .nil, _, _, st, K => K st
  | .q i t, tail, mm, st, K => match st with
    | ⟨fr, bl, R⟩ => match nthO ops i with
      | none => False
      | some o => guardK ops o.guard fr (fun fr => exP Γ o.op fr bl R (fun s => putK n fr o.dst s fun fr => exOrd ops t tail (mmq (isAddr o.op) bl R mm) ⟨fr, bl, R⟩ K) False)
        (fun fr => putK n fr o.dst (.v undef) fun fr => exOrd ops t tail (mmq (isAddr o.op) bl R mm) ⟨fr, bl, R⟩ K)
  | .qb i t, tail, mm, st, K => match st with
    | ⟨fr, bl, R⟩ => match nthO ops i with
      | none => False
      | some o => mmSub mm (bl.map Blk.ent) (guardK ops o.guard fr (fun fr => exP Γ o.op fr bl [] (fun s => putK n fr o.dst s fun fr => exOrd ops t tail (some (bl.map Blk.ent)) ⟨fr, bl, R⟩ K) False)
        (fun fr => putK n fr o.dst (.v undef) fun fr => exOrd ops t tail (some (bl.map Blk.ent)) ⟨fr, bl, R⟩ K))
  | .f i t, tail, mm, st, K => match st with
    | ⟨fr, bl, R⟩ => match nthO ops i with
      | none => False
      | some o => guardK ops o.guard fr (fun fr => match isPureF o.op with
          | true => exP Γ o.op fr bl R (fun s => putK n fr o.dst s fun fr => exOrd ops t tail mm ⟨fr, bl, R⟩ K) False
          | false => exOp P E Γ n o fr bl R fun st => keepK tail mm st (exOrd ops t tail mm st K))
        (fun fr => putK n fr o.dst (.v undef) fun fr => exOrd ops t tail mm ⟨fr, bl, R⟩ K)
  | .tl i t, _, mm, st, K => match st with
    | ⟨fr, bl, R⟩ => match nthO ops i with
      | none => False
      | some o => guardK ops o.guard fr (fun fr => exOp P E Γ n o fr bl R fun st => exOrd ops t true mm st K)
        (fun fr => putK n fr o.dst (.v undef) fun fr => exOrd ops t true mm ⟨fr, bl, R⟩ K)
  | .hd r, _, mm, st, K => exOrdC ops r mm st K
  | .alt _ _ _, _, _, _, _ => False
def exOrdC (ops : List Oper) : OT → Option Hp → St → (St → Prop) → Prop
  | .alt i t rest, mm, st, K => VC (match st with
    | ⟨fr, bl, R⟩ => match nthO ops i with
      | none => False
      | some o => guardK ops o.guard fr (fun fr => exOp P E Γ n o fr bl R fun st => keepK false mm st (exOrd ops t false mm st K))
        (fun fr => putK n fr o.dst (.v undef) fun fr => exOrd ops t false mm ⟨fr, bl, R⟩ K)) (exOrdC ops rest mm st K)
  | _, _, _, _ => True
end
end

/- soundness -/
section
variable {P : Program} {E : World} {Γ : Ty} {n : Nat}

def SS (t0 : Option Nat) (C : World → Prop) (L : Array Bool) (w : World) : Prop :=
  (match t0 with
    | some t => L.getD t true = true
    | none => False) ∨ C w

/-- whatever order is picked from here on, and SS holds behind every operation -/
def wpAnyG (P : Program) (ops : Array Oper) (Q : Exit → Act → World → Prop) (t0 : Option Nat) (C : World → Prop) : Nat → Array Bool → Act → World → Prop
  | 0, L, a, w => Region.ready .any ops L = [] ∧ Q .normal a w
  | fuel + 1, L, a, w => (Region.ready .any ops L = [] → Q .normal a w) ∧
    ∀ i ∈ Region.ready .any ops L, wpOp P ops Q i (fun a' w' => SS t0 C (L.setIfInBounds i true) w' ∧ wpAnyG P ops Q t0 C fuel (L.setIfInBounds i true) a' w') a w

variable {ops : Array Oper} {Q : Exit → Act → World → Prop} {t0 : Option Nat}

theorem wpAny_of_G {C : World → Prop} : ∀ (fuel : Nat) (L : Array Bool) (a : Act) (w : World), wpAnyG P ops Q t0 C fuel L a w → wpAny P .any ops Q fuel L a w
  | 0, _, _, _, h => h
  | fuel + 1, _, _, _, h => ⟨h.1, fun i hi => wpOp_mono (fun a' w' h' => wpAny_of_G fuel _ a' w' h'.2) (h.2 i hi)⟩

theorem wpAnyG_first {C D : World → Prop} {i : Nat} {oi : Oper} {v : Value} (hi : ops[i]? = some oi) (hsel : ∀ (j : Nat) (o : Oper) cs b, ops[j]? = some o → o.op ≠ .select cs b)
    (hQ : ∀ c a w, Q (.panic c) (a.put oi.dst v) w → Q (.panic c) a w) (B : List Nat) (ht0 : ∀ t, t0 = some t → t ≠ i) (hDB : (∀ w, D w) ∨ ∀ t, t0 = some t → t ∈ B)
    (hB : ∀ k ∈ B, ∃ o, ops[k]? = some o ∧ ∃ e ∈ o.after, Region.binds .any e = true ∧ (e.on = i ∨ e.on ∈ B)) :
    ∀ (fuel : Nat) (L : Array Bool) (a : Act) (w : World),
      (∀ j oj, ops[j]? = some oj → j ≠ i → L.getD j true = false → (∀ e ∈ oj.after, Region.binds .any e = true → e.on ≠ i) → oi.apart ops oj = true) →
      (∀ k ∈ B, L.getD k true = false) →
      i ∈ Region.ready .any ops L → YieldsIf P ops D oi v a → D w → SS t0 C (L.setIfInBounds i true) w →
      wpAnyG P ops Q t0 (fun w => C w ∧ D w) fuel (L.setIfInBounds i true) (a.put oi.dst v) w → wpAnyG P ops Q t0 C (fuel + 1) L a w := by
  have weak : ∀ (fuel : Nat) (L : Array Bool) (a : Act) (w : World), wpAnyG P ops Q t0 (fun w => C w ∧ D w) fuel L a w → wpAnyG P ops Q t0 C fuel L a w := by
    intro fuel
    induction fuel with
    | zero => intro L a w h; exact h
    | succ fuel ih =>
      intro L a w h
      refine ⟨h.1, fun j hj => wpOp_mono (fun a' w' h' => ⟨?_, ih _ _ _ h'.2⟩) (h.2 j hj)⟩
      rcases h'.1 with h1 | h1
      · exact .inl h1
      · exact .inr h1.1
  have unset : ∀ (L : Array Bool) (w : World) (C' : World → Prop), SS t0 C' (L.setIfInBounds i true) w → SS t0 C' L w := by
    intro L w C' h
    unfold SS at h ⊢
    cases ht : t0 with
    | none => rw [ht] at h; simpa using h
    | some t =>
      rw [ht] at h
      rcases h with h | h
      · refine .inl ?_
        simp only at h ⊢
        rw [getD_set_ne true (fun e => (ht0 t ht) e.symm)] at h
        exact h
      · exact .inr h
  intro fuel
  induction fuel with
  | zero =>
    intro L a w _ _ hr hy hD hS H
    refine ⟨fun h => (by rw [h] at hr; cases hr), fun j hj => ?_⟩
    by_cases hji : j = i
    · subst hji; exact hy.wpOp hi hD ⟨hS, weak _ _ _ _ H⟩
    · have := ready_mono hj hji
      rw [H.1] at this
      cases this
  | succ fuel ih =>
    intro L a w hfree htl hr hy hD hS H
    refine ⟨fun h => (by rw [h] at hr; cases hr), fun j hj => ?_⟩
    by_cases hji : j = i
    · subst hji; exact hy.wpOp hi hD ⟨hS, weak _ _ _ _ H⟩
    · have h1 := H.2 j (ready_mono hj hji)
      obtain ⟨hjun, oj, hoj, hall⟩ := mem_ready.1 hj
      have hiL := (mem_ready.1 hr).1
      have hnot : ∀ e ∈ oj.after, Region.binds .any e = true → e.on ≠ i := fun e he hb heq => by
        have h1 := hall e he hb
        rw [heq] at h1
        rcases Nat.lt_or_ge i L.size with h' | h'
        · simp [h'] at hiL h1; rw [hiL] at h1; cases h1
        · simp [Array.getElem?_eq_none h'] at h1
      have h2 := wpOp_putIf hoj (hfree j oj hoj hji hjun hnot) (fun cs b => hsel i oi cs b hi) (fun cs b => hsel j oj cs b hoj) hQ hy h1
      have hfree' : ∀ k ok, ops[k]? = some ok → k ≠ i → (L.setIfInBounds j true).getD k true = false →
          (∀ e ∈ ok.after, Region.binds .any e = true → e.on ≠ i) → oi.apart ops ok = true := fun k ok hk hki hun hno => by
        refine hfree k ok hk hki ?_ hno
        by_cases hjk : j = k
        · subst hjk; exact hjun
        · rw [getD_set_ne true hjk] at hun; exact hun
      have htl' : ∀ k ∈ B, (L.setIfInBounds j true).getD k true = false := by
        intro k hk
        by_cases hjk : j = k
        · subst hjk
          obtain ⟨o, ho, e, he, hb, heq⟩ := hB j hk
          rw [hoj] at ho; cases ho
          rcases heq with heq | heq
          · exact absurd heq (hnot e he hb)
          · exfalso
            have h5 := htl _ heq
            have h6 := hall e he hb
            rcases Nat.lt_or_ge e.on L.size with h' | h'
            · simp [h'] at h5 h6; rw [h5] at h6; cases h6
            · simp [Array.getElem?_eq_none h'] at h5
        · rw [getD_set_ne true hjk]; exact htl k hk
      refine wpOp_mono (fun a' w' h3 => ?_) h2
      obtain ⟨hy', hS', hG⟩ := h3
      rw [Array.setIfInBounds_comm _ _ (Ne.symm hji)] at hS' hG
      have hSj : SS t0 (fun w => C w ∧ D w) (L.setIfInBounds j true) w' := unset _ _ _ hS'
      have hDw : D w' := by
        rcases hDB with hDB | hDB
        · exact hDB w'
        rcases hSj with h5 | h5
        · cases ht : t0 with
          | none => rw [ht] at h5; exact h5.elim
          | some t =>
            rw [ht] at h5
            have h6 := htl' t (hDB t ht)
            simp only at h5; rw [h6] at h5; cases h5
        · exact h5.2
      have wk : ∀ L, SS t0 (fun w => C w ∧ D w) L w' → SS t0 C L w' := fun L h => h.imp id And.left
      exact ⟨wk _ hSj, ih (L.setIfInBounds j true) a' w' hfree' htl' (ready_mono hr (Ne.symm hji)) hy' hDw (wk _ hS') hG⟩

theorem nthO_eq : ∀ (l : List Oper) (i : Nat), nthO l i = l[i]?
  | [], _ => by simp [nthO]
  | _ :: _, 0 => rfl
  | _ :: r, i + 1 => by simp only [nthO, List.getElem?_cons_succ]; exact nthO_eq r i

theorem guardK_sound {l : List Oper} {o : Oper} {fr : Fr} {bl : List Blk} {R : List Hp} {a : Act} {w : World} {run skip : Fr → Prop} (h : guardK l o.guard fr run skip) (hr : Rel E n ⟨fr, bl, R⟩ a w) :
    ∃ fr', Rel E n ⟨fr', bl, R⟩ a w ∧ ((Region.wanted o (yielded ⟨l⟩ a.tmps) = true ∧ run fr') ∨ (Region.wanted o (yielded ⟨l⟩ a.tmps) = false ∧ skip fr')) := by
  unfold guardK at h
  split at h
  · rename_i hg
    exact ⟨fr, hr, .inl ⟨by simp [Region.wanted, hg], h⟩⟩
  · rename_i j want hg
    split at h
    · exact h.elim
    · rename_i d hd
      have hy : ∀ t : Bool, a.tmps[d]? = some (.bool t) → ∀ b : Bool, decide (t = want) = b → Region.wanted o (yielded ⟨l⟩ a.tmps) = b := by
        intro t ht b hb
        simp only [Region.wanted, hg, yielded_eq hd ht]
        rw [← hb]
        cases t <;> cases want <;> rfl
      split at h
      · rename_i t ht
        have h1 := (hr.val _ _ ht).1
        split at h
        · rename_i hb; exact ⟨fr, hr, .inl ⟨hy t h1 _ hb, h⟩⟩
        · rename_i hb; exact ⟨fr, hr, .inr ⟨hy t h1 _ hb, h⟩⟩
      · rename_i t ht
        have h1 := (hr.val _ _ ht).1
        obtain ⟨htr, hfa⟩ := h
        have h2 := hr.know ht
        cases t with
        | true =>
          have h3 := htr rfl
          cases want with
          | true => exact ⟨_, h2, .inl ⟨hy true h1 _ rfl, h3⟩⟩
          | false => exact ⟨_, h2, .inr ⟨hy true h1 _ rfl, h3⟩⟩
        | false =>
          have h3 := hfa rfl
          cases want with
          | true => exact ⟨_, h2, .inr ⟨hy false h1 _ rfl, h3⟩⟩
          | false => exact ⟨_, h2, .inl ⟨hy false h1 _ rfl, h3⟩⟩
      · rename_i ht
        have h1 := (hr.val _ _ ht).1
        refine ⟨fr, hr, .inr ⟨?_, h⟩⟩
        simp only [Region.wanted, hg, yielded_un hd h1]
        cases want <;> rfl
      · exact h.elim

def otDepth : OT → Nat
  | .nil => 0
  | .q _ t => otDepth t + 1
  | .qb _ t => otDepth t + 1
  | .f _ t => otDepth t + 1
  | .tl _ t => otDepth t + 1
  | .alt _ t rest => max (otDepth t + 1) (otDepth rest)
  | .hd r => otDepth r

theorem Sat.sub {H H' : Hp} {w : World} (h : Sat E H' w) (hs : ∀ p ∈ H, p ∈ H') (hn : (H.map (·.1)).Nodup) : Sat E H w :=
  ⟨h.os, h.out, h.tape, fun b o hm => h.mem b o (hs _ hm), hn, h.dr⟩

def mmSat (E : World) : Option Hp → World → Prop
  | none, _ => True
  | some q, w => Sat E q w
def mmIn : Option Hp → Hp → Prop
  | none, _ => True
  | some q, h => (q.map (·.1)).Nodup ∧ ∀ p ∈ q, p ∈ h
theorem mmIn.sat {mm : Option Hp} {H : Hp} {w : World} (h : mmIn mm H) (hs : Sat E H w) : mmSat E mm w := by
  cases mm with
  | none => trivial
  | some q => exact hs.sub h.2 h.1

theorem wpOp_of {l : List Oper} {i : Nat} {o : Oper} (ho : nthO l i = some o) {K : Act → World → Prop} {a : Act} {w : World}
    (h1 : Region.wanted o (yielded ⟨l⟩ a.tmps) = true → o.wp P a w K Q) (h2 : Region.wanted o (yielded ⟨l⟩ a.tmps) = false → K (a.put o.dst undef) w) : wpOp P ⟨l⟩ Q i K a w := by
  unfold wpOp
  have : (⟨l⟩ : Array Oper)[i]? = some o := by rw [← ho, nthO_eq]; simp
  rw [this]
  simp only
  cases hw : Region.wanted o (yielded ⟨l⟩ a.tmps) with
  | true => simp only [if_true]; exact .inl (h1 hw)
  | false => simp only [Bool.false_eq_true, if_false]; exact h2 hw

/-- one of a chain of alternatives -/
theorem chain_get {l : List Oper} : ∀ (r : OT) (mm : Option Hp) (L : Array Bool) (st : St) (K : St → Prop) (j : Nat), j ∈ altIdx r → otOkC ⟨l⟩ t0 r L = true → exOrdC P E Γ n l r mm st K →
    ∃ t, otDepth t < otDepth r ∧ t0 ≠ some j ∧ otOk ⟨l⟩ t0 t (L.setIfInBounds j true) false = true ∧ (match st with
    | ⟨fr, bl, R⟩ => match nthO l j with
      | none => False
      | some o => guardK l o.guard fr (fun fr => exOp P E Γ n o fr bl R fun st => keepK false mm st (exOrd P E Γ n l t false mm st K))
        (fun fr => putK n fr o.dst (.v undef) fun fr => exOrd P E Γ n l t false mm ⟨fr, bl, R⟩ K))
  | .alt i t rest, mm, L, st, K, j, hj, hok, h => by
    simp only [altIdx, List.mem_cons] at hj
    simp only [otOkC, Bool.and_eq_true, bne_iff_ne, ne_eq] at hok
    simp only [exOrdC] at h
    obtain ⟨h1, h2⟩ := h
    by_cases hji : j = i
    · subst hji
      exact ⟨t, by simp only [otDepth]; omega, hok.1.1, hok.1.2, h1⟩
    · obtain ⟨t', h3, h4⟩ := chain_get rest mm L st K j (hj.resolve_left hji) hok.2 h2
      exact ⟨t', by simp only [otDepth]; omega, h4⟩
  | .nil, _, _, _, _, _, hj, _, _ => by cases hj
  | .q _ _, _, _, _, _, _, hj, _, _ => by cases hj
  | .qb _ _, _, _, _, _, _, hj, _, _ => by cases hj
  | .f _ _, _, _, _, _, _, hj, _, _ => by cases hj
  | .tl _ _, _, _, _, _, _, hj, _, _ => by cases hj
  | .hd _, _, _, _, _, _, hj, _, _ => by cases hj

theorem exP_free (hΓ : TyOk P Γ) {op : Op} {fr : Fr} {bl : List Blk} {R : List Hp} {K : SV → Prop} (hop : isAddr op = true) (h : exP Γ op fr bl R K False) :
    ∃ s, K s ∧ ∀ a w, Rel E n ⟨fr, bl, R⟩ a w → s.ok bl ∧ ∀ w' dst ty pos after guard, (execOp a.eval ⟨dst, op, ty, pos, after, guard⟩).run P w' = .ok (.value (s.den bl)) w' := by
  cases op <;> try (cases hop; done)
  case move x =>
    obtain ⟨s, h1, h2⟩ := getK_uni (E := E) (n := n) (bl := bl) (R := R) h
    refine ⟨s, h1, fun a w hr => ⟨(h2 a w hr).2, fun w' dst ty pos after guard => ?_⟩⟩
    rw [← (h2 a w hr).1]; rfl
  case assign x =>
    obtain ⟨s, h1, h2⟩ := getK_uni (E := E) (n := n) (bl := bl) (R := R) h
    refine ⟨s, h1, fun a w hr => ⟨(h2 a w hr).2, fun w' dst ty pos after guard => ?_⟩⟩
    rw [← (h2 a w hr).1]; rfl
  case nilCheck x =>
    obtain ⟨s, h1, h2⟩ := getK_uni (E := E) (n := n) (bl := bl) (R := R) h
    split at h1
    · refine ⟨_, h1, fun a w hr => ⟨(h2 a w hr).2, fun w' dst ty pos after guard => ?_⟩⟩
      simp only [execOp, (h2 a w hr).1, SV.den, Sem.run_pure]
    · refine ⟨_, h1, fun a w hr => ⟨(h2 a w hr).2, fun w' dst ty pos after guard => ?_⟩⟩
      simp only [execOp, (h2 a w hr).1, SV.den, Sem.run_pure]
    · refine ⟨_, h1, fun a w hr => ⟨(h2 a w hr).2, fun w' dst ty pos after guard => ?_⟩⟩
      simp only [execOp, (h2 a w hr).1, SV.den, Sem.run_pure]
    · exact h1.elim
  case extract x i =>
    obtain ⟨s, h3, h1⟩ := getK_uni (E := E) (n := n) (bl := bl) (R := R) h
    split at h3
    · rename_i vs
      split at h3
      · rename_i v hv
        refine ⟨.v v, h3, fun a w hr => ⟨trivial, fun w' dst ty pos after guard => ?_⟩⟩
        rw [nthV_eq] at hv
        have hv' : (⟨vs⟩ : Array Value)[i]? = some v := by simpa using hv
        simp only [execOp, (h1 a w hr).1, SV.den, Instr.extract, hv', Sem.run_bind, Sem.run_pure, Result.andThen_ok]
      · exact h3.elim
    · exact h3.elim
  case binOp op xt x y yt =>
    obtain ⟨sx, h3, h1⟩ := getK_uni (E := E) (n := n) (bl := bl) (R := R) h
    obtain ⟨sy, h6, h4⟩ := getK_uni (E := E) (n := n) (bl := bl) (R := R) h3
    rcases exBin_sound (P := P) hΓ bl h6 with h7 | ⟨s, h8, h9⟩
    · exact h7.elim
    · obtain ⟨h10, h11⟩ := h9 x y
      refine ⟨s, h8, fun a w hr => ⟨h10, fun w' dst ty pos after guard => ?_⟩⟩
      have := h11 w'
      rw [← (h1 a w hr).1, ← (h4 a w hr).1] at this
      simp only [execOp, Sem.run_bind, Sem.run_pure] at this ⊢
      rw [this]; rfl
  case unOp op t x =>
    obtain ⟨sx, h3, h1⟩ := getK_uni (E := E) (n := n) (bl := bl) (R := R) h
    rcases exUn_sound (P := P) bl h3 with h7 | ⟨s, h8, h9, h10⟩
    · exact h7.elim
    · refine ⟨s, h8, fun a w hr => ⟨h9, fun w' dst ty pos after guard => ?_⟩⟩
      have := h10 w'
      rw [← (h1 a w hr).1] at this
      simp only [execOp, Sem.run_bind, Sem.run_pure] at this ⊢
      rw [this]; rfl
  case fieldAddr t x f =>
    simp only [exP] at h
    split at h
    · rename_i fs hu
      split at h
      · exact h.elim
      · rename_i fd hfd
        obtain ⟨off, ft⟩ := fd
        simp only at h
        split at h
        · exact h.elim
        · exact h.elim
        · rename_i k hk
          obtain ⟨s, h3, h1⟩ := getK_uni (E := E) (n := n) (bl := bl) (R := R) h
          have hex : ∀ (a : Act) (w : World) (b o : Nat), a.eval x = .pointer (some ⟨b, o, none⟩) → ∀ dst ty pos after guard, (execOp a.eval ⟨dst, .fieldAddr t x f, ty, pos, after, guard⟩).run P w = .ok (.value (.pointer (some ⟨b, o + off, none⟩))) w := by
            intro a w b o e1 dst ty pos after guard
            simp only [execOp, Sem.run_bind, run_fieldAt hΓ hu hfd hk e1, Result.andThen_ok, Sem.run_pure]
          split at h3
          · exact ⟨.p _ _, h3, fun a w hr => ⟨(h1 a w hr).2, fun w' => hex a w' _ _ (h1 a w hr).1⟩⟩
          · exact ⟨.v _, h3, fun a w hr => ⟨trivial, fun w' => hex a w' _ _ (h1 a w hr).1⟩⟩
          · exact h3.elim
    · exact h.elim

set_option maxHeartbeats 1000000 in
theorem exOrd_sound (hΓ : TyOk P Γ) {l : List Oper} (hsel : Region.noSelect ⟨l⟩ = true) (hQ : ∀ c a w, ¬ Q (.panic c) a w) : ∀ (fuel : Nat) (ot : OT) (tail : Bool) (mm : Option Hp) (st : St) (K : St → Prop) (L : Array Bool) (a : Act) (w : World) (C : World → Prop),
    otOk ⟨l⟩ t0 ot L tail = true → otDepth ot ≤ fuel → exOrd P E Γ n l ot tail mm st K → Rel E n st a w → (tail = true → ∃ t, t0 = some t ∧ L.getD t true = true) → (tail = false → ∀ t, t0 = some t → L.getD t true = false) →
    (tail = false → ∀ w, mmSat E mm w → C w) → (tail = false → mmIn mm st.hall) → (∀ st a w, Rel E n st a w → K st → Q .normal a w) → wpAnyG P ⟨l⟩ Q t0 C fuel L a w := by
  intro fuel
  induction fuel with
  | zero =>
    intro ot tail mm st K L a w C hok hd h hr _ _ _ _ hK
    cases ot <;> simp only [otDepth, Nat.le_zero_eq, Nat.add_eq_zero_iff] at hd
    case nil => exact ⟨by simpa [otOk] using hok, hK st a w hr h⟩
    case hd r =>
      simp only [otOk, Bool.and_eq_true, Bool.not_eq_true', beq_iff_eq] at hok
      cases r <;> simp [altIdx] at hok
      simp only [otDepth] at hd; omega
    all_goals omega
  | succ fuel ih =>
  have setT : ∀ (L : Array Bool) (j : Nat), (L.setIfInBounds j true).getD j true = true := by
    intro L j
    rw [Array.getD_eq_getD_getElem?, Array.getElem?_setIfInBounds]
    simp only [if_true]
    split <;> rfl
  intro ot tail mm st K L a w C hok hd h hr htl htl2 hC hM hK
  cases ot with
  | nil =>
    have hready : Region.ready .any ⟨l⟩ L = [] := by simpa [otOk] using hok
    exact ⟨fun _ => hK st a w hr h, fun i hi => by rw [hready] at hi; cases hi⟩
  | q i t =>
    obtain ⟨fr, bl, R⟩ := st
    simp only [otOk, Bool.and_eq_true, Bool.not_eq_true', bne_iff_ne, ne_eq] at hok
    obtain ⟨⟨⟨⟨⟨hfree, hready⟩, htail⟩, hpure⟩, hne⟩, hok⟩ := hok
    subst htail
    simp only [exOrd] at h
    split at h
    · exact h.elim
    · rename_i o ho
      have ho' : (⟨l⟩ : Array Oper)[i]? = some o := by rw [← (by rw [nthO_eq]; simp : nthO l i = (⟨l⟩ : Array Oper)[i]?)]; exact ho
      rw [ho'] at hpure
      simp only [Bool.and_eq_true] at hpure
      obtain ⟨fr', hr', hg⟩ := guardK_sound h hr
      by_cases hfreeOp : isAddr o.op = true
      · have hD : ∃ v fr'', YieldsIf P ⟨l⟩ (fun _ => True) o v a ∧ Rel E n ⟨fr'', bl, R⟩ (a.put o.dst v) w ∧ exOrd P E Γ n l t false (mmq (isAddr o.op) bl R mm) ⟨fr'', bl, R⟩ K := by
          rcases hg with ⟨hw, hrun⟩ | ⟨hw, hskip⟩
          · obtain ⟨s, h1, h2⟩ := exP_free (P := P) (E := E) (n := n) hΓ hfreeOp hrun
            obtain ⟨fr'', h3, h4⟩ := putK_sound hr' (h2 a w hr').1 h1
            exact ⟨s.den bl, fr'', .inl ⟨hw, fun w' _ => (h2 a w hr').2 w' o.dst o.type o.pos o.after o.guard⟩, h4, h3⟩
          · obtain ⟨fr'', h3, h4⟩ := putK_sound (s := .v undef) hr' trivial hskip
            exact ⟨undef, fr'', .inr ⟨hw, rfl⟩, h4, h3⟩
        obtain ⟨v, fr'', hy, hr'', hrest⟩ := hD
        have hLt : ∀ t', t0 = some t' → (L.setIfInBounds i true).getD t' true = false := fun t' ht' => by
          rw [getD_set_ne true (fun e => hne (by rw [ht', e]))]; exact htl2 rfl t' ht'
        refine wpAnyG_first ho' (Region.noSelect_spec hsel) (fun c a w hc => (hQ _ _ _ hc).elim) [] (fun t' ht' e => hne (by rw [ht', e])) (.inl fun _ => trivial) (fun _ h => by cases h) fuel L a w (Region.free_spec ho' hfree) (fun _ h => by cases h) (by simpa using hready) hy trivial ?_ ?_
        · exact .inr (hC rfl w ((hM rfl).sat hr.sat))
        · exact ih t false _ ⟨fr'', bl, R⟩ K _ _ w _ hok (by simp only [otDepth] at hd; omega) hrest hr'' (fun h => by cases h) (fun _ => hLt) (fun _ w' hw' => ⟨hC rfl w' (by rw [hfreeOp] at hw'; exact hw'), trivial⟩) (fun _ => by rw [hfreeOp]; exact hM rfl) hK
      have hwt : waitsOn ⟨l⟩ t0 i L = true := by simpa [hfreeOp] using hpure.2
      have hmm : mmq (isAddr o.op) bl R mm = some (St.mk fr bl R).hall := by rw [show isAddr o.op = false by simpa using hfreeOp]; rfl
      have hD : ∃ v fr'', YieldsIf P ⟨l⟩ (fun w => Sat E (St.hall ⟨fr, bl, R⟩) w) o v a ∧ Rel E n ⟨fr'', bl, R⟩ (a.put o.dst v) w ∧ exOrd P E Γ n l t false (mmq (isAddr o.op) bl R mm) ⟨fr'', bl, R⟩ K := by
        rcases hg with ⟨hw, hrun⟩ | ⟨hw, hskip⟩
        · rcases exP_sound (P := P) (E := E) (n := n) hΓ hrun with h1 | ⟨s, h1, h2⟩
          · exact h1.elim
          · obtain ⟨fr'', h3, h4⟩ := putK_sound hr' (h2 a w hr').1 h1
            refine ⟨s.den bl, fr'', .inl ⟨hw, fun w' hw' => ?_⟩, h4, h3⟩
            have hr2 : Rel E n ⟨fr', bl, R⟩ a w' := ⟨hr'.size, hr'.defers, hr'.val, hw'⟩
            exact (h2 a w' hr2).2 o.dst o.type o.pos o.after o.guard
        · obtain ⟨fr'', h3, h4⟩ := putK_sound (s := .v undef) hr' trivial hskip
          exact ⟨undef, fr'', .inr ⟨hw, rfl⟩, h4, h3⟩
      obtain ⟨v, fr'', hy, hr'', hrest⟩ := hD
      have hLt : ∀ t', t0 = some t' → (L.setIfInBounds i true).getD t' true = false := fun t' ht' => by
        rw [getD_set_ne true (fun e => hne (by rw [ht', e]))]; exact htl2 rfl t' ht'
      have hbb : ∃ B : List Nat, (∀ t, t0 = some t → t ≠ i ∧ t ∈ B) ∧ ∀ k ∈ B, L.getD k true = false ∧ ∃ o, (⟨l⟩ : Array Oper)[k]? = some o ∧ ∃ e ∈ o.after, Region.binds .any e = true ∧ (e.on = i ∨ e.on ∈ B) := by
        unfold waitsOn at hwt
        cases ht : t0 with
        | none => exact ⟨[], (fun _ h => by cases h), (fun _ h => by cases h)⟩
        | some t' =>
          rw [ht] at hwt
          simp only [Bool.and_eq_true, List.contains_iff_mem] at hwt
          exact ⟨_, fun t'' e => by cases e; exact ⟨fun e => hne (by rw [ht, e]), hwt.1⟩, behindOk_spec hwt.2⟩
      obtain ⟨B, hb1, hb2⟩ := hbb
      refine wpAnyG_first ho' (Region.noSelect_spec hsel) (fun c a w hc => (hQ _ _ _ hc).elim) B (fun t' ht' => (hb1 t' ht').1) (.inr fun t' ht' => (hb1 t' ht').2) (fun k hk => (hb2 k hk).2) fuel L a w (Region.free_spec ho' hfree) (fun k hk => (hb2 k hk).1) (by simpa using hready) hy hr.sat ?_ ?_
      · exact .inr (hC rfl w ((hM rfl).sat hr.sat))
      · exact ih t false _ ⟨fr'', bl, R⟩ K _ _ w _ hok (by simp only [otDepth] at hd; omega) hrest hr'' (fun h => by cases h) (fun _ => hLt) (fun _ w' hw' => by rw [hmm] at hw'; exact ⟨hC rfl w' ((hM rfl).sat hw'), hw'⟩) (fun _ => by rw [hmm]; exact ⟨hr.sat.nodup, fun _ h => h⟩) hK
  | qb i t =>
    obtain ⟨fr, bl, R⟩ := st
    simp only [otOk, Bool.and_eq_true, Bool.not_eq_true', bne_iff_ne, ne_eq] at hok
    obtain ⟨⟨⟨⟨⟨hfree, hready⟩, htail⟩, hpure⟩, hne⟩, hok⟩ := hok
    subst htail
    simp only [exOrd] at h
    split at h
    · exact h.elim
    · rename_i o ho
      have ho' : (⟨l⟩ : Array Oper)[i]? = some o := by rw [← (by rw [nthO_eq]; simp : nthO l i = (⟨l⟩ : Array Oper)[i]?)]; exact ho
      rw [ho'] at hpure
      simp only [Bool.and_eq_true] at hpure
      have hnd : ((bl.map Blk.ent).map (·.1)).Nodup := by
        have := hr.sat.nodup
        simp only [St.hall, List.map_append] at this
        rw [List.nodup_append] at this
        exact this.1
      have hsub : ∀ p ∈ bl.map Blk.ent, p ∈ (St.mk fr bl R).hall := fun p hp => List.mem_append_left _ hp
      have hmm : (∀ w', Sat E (bl.map Blk.ent) w' → mmSat E mm w') ∧ guardK l o.guard fr (fun fr => exP Γ o.op fr bl [] (fun s => putK n fr o.dst s fun fr => exOrd P E Γ n l t false (some (bl.map Blk.ent)) ⟨fr, bl, R⟩ K) False) (fun fr => putK n fr o.dst (.v undef) fun fr => exOrd P E Γ n l t false (some (bl.map Blk.ent)) ⟨fr, bl, R⟩ K) := by
        cases hm : mm with
        | none => rw [hm] at h; exact ⟨fun _ _ => trivial, h⟩
        | some q =>
          rw [hm] at h
          obtain ⟨h3, h4⟩ := h
          have hM' := hM rfl
          rw [hm] at hM'
          exact ⟨fun w' hw' => hw'.sub h3 hM'.1, h4⟩
      obtain ⟨hms, h⟩ := hmm
      obtain ⟨fr', hr', hg⟩ := guardK_sound h hr
      have hs0 : Sat E (bl.map Blk.ent) w := hr.sat.sub hsub hnd
      have eh : ∀ fr, (St.mk fr bl []).hall = bl.map Blk.ent := fun fr => by simp [St.hall]
      have hD : ∃ v fr'', YieldsIf P ⟨l⟩ (fun w => Sat E (bl.map Blk.ent) w) o v a ∧ Rel E n ⟨fr'', bl, R⟩ (a.put o.dst v) w ∧ exOrd P E Γ n l t false (some (bl.map Blk.ent)) ⟨fr'', bl, R⟩ K := by
        rcases hg with ⟨hw, hrun⟩ | ⟨hw, hskip⟩
        · rcases exP_sound (P := P) (E := E) (n := n) hΓ hrun with h1 | ⟨s, h1, h2⟩
          · exact h1.elim
          · have hr0 : Rel E n ⟨fr', bl, []⟩ a w := ⟨hr'.size, hr'.defers, hr'.val, by rw [eh]; exact hs0⟩
            obtain ⟨fr'', h3, h4⟩ := putK_sound hr' (h2 a w hr0).1 h1
            refine ⟨s.den bl, fr'', .inl ⟨hw, fun w' hw' => ?_⟩, h4, h3⟩
            have hr2 : Rel E n ⟨fr', bl, []⟩ a w' := ⟨hr'.size, hr'.defers, hr'.val, by rw [eh]; exact hw'⟩
            exact (h2 a w' hr2).2 o.dst o.type o.pos o.after o.guard
        · obtain ⟨fr'', h3, h4⟩ := putK_sound (s := .v undef) hr' trivial hskip
          exact ⟨undef, fr'', .inr ⟨hw, rfl⟩, h4, h3⟩
      obtain ⟨v, fr'', hy, hr'', hrest⟩ := hD
      have hLt : ∀ t', t0 = some t' → (L.setIfInBounds i true).getD t' true = false := fun t' ht' => by
        rw [getD_set_ne true (fun e => hne (by rw [ht', e]))]; exact htl2 rfl t' ht'
      have hbb : ∃ B : List Nat, (∀ t, t0 = some t → t ≠ i ∧ t ∈ B) ∧ ∀ k ∈ B, L.getD k true = false ∧ ∃ o, (⟨l⟩ : Array Oper)[k]? = some o ∧ ∃ e ∈ o.after, Region.binds .any e = true ∧ (e.on = i ∨ e.on ∈ B) := by
        have hwt := hpure.2
        unfold waitsOn at hwt
        cases ht : t0 with
        | none => exact ⟨[], (fun _ h => by cases h), (fun _ h => by cases h)⟩
        | some t' =>
          rw [ht] at hwt
          simp only [Bool.and_eq_true, List.contains_iff_mem] at hwt
          exact ⟨_, fun t'' e => by cases e; exact ⟨fun e => hne (by rw [ht, e]), hwt.1⟩, behindOk_spec hwt.2⟩
      obtain ⟨B, hb1, hb2⟩ := hbb
      refine wpAnyG_first ho' (Region.noSelect_spec hsel) (fun c a w hc => (hQ _ _ _ hc).elim) B (fun t' ht' => (hb1 t' ht').1) (.inr fun t' ht' => (hb1 t' ht').2) (fun k hk => (hb2 k hk).2) fuel L a w (Region.free_spec ho' hfree) (fun k hk => (hb2 k hk).1) (by simpa using hready) hy hs0 ?_ ?_
      · exact .inr (hC rfl w ((hM rfl).sat hr.sat))
      · exact ih t false _ ⟨fr'', bl, R⟩ K _ _ w _ hok (by simp only [otDepth] at hd; omega) hrest hr'' (fun h => by cases h) (fun _ => hLt) (fun _ w' hw' => ⟨hC rfl w' (hms w' hw'), hw'⟩) (fun _ => ⟨hnd, hsub⟩) hK
  | f i t =>
    obtain ⟨fr, bl, R⟩ := st
    simp only [otOk, Bool.and_eq_true, beq_iff_eq, Bool.or_eq_true, bne_iff_ne, ne_eq] at hok
    obtain ⟨⟨hready, hne⟩, hok⟩ := hok
    simp only [exOrd] at h
    split at h
    · exact h.elim
    · rename_i o ho
      refine ⟨(fun h0 => by rw [hready] at h0; cases h0), fun j hj => ?_⟩
      rw [hready] at hj
      obtain rfl : j = i := by simpa using hj
      obtain ⟨fr', hr', hg⟩ := guardK_sound h hr
      have hLt : tail = true → ∃ t', t0 = some t' ∧ (L.setIfInBounds j true).getD t' true = true := fun ht => by
        obtain ⟨t', h1, h2⟩ := htl ht
        refine ⟨t', h1, ?_⟩
        by_cases hjt : j = t'
        · subst hjt; exact setT L j
        · rw [getD_set_ne true hjt]; exact h2
      have hLf : tail = false → ∀ t', t0 = some t' → (L.setIfInBounds j true).getD t' true = false := fun ht t' ht' => by
        have hnj : j ≠ t' := fun e => by
          rcases hne with h1 | h1
          · exact h1 (by rw [ht', e])
          · rw [ht] at h1; cases h1
        rw [getD_set_ne true hnj]; exact htl2 ht t' ht'
      have fin : ∀ st' a' w', Rel E n st' a' w' → (tail = false → mmIn mm st'.hall) → exOrd P E Γ n l t tail mm st' K → SS t0 C (L.setIfInBounds j true) w' ∧ wpAnyG P ⟨l⟩ Q t0 C fuel (L.setIfInBounds j true) a' w' := by
        intro st' a' w' h1 h2 h3
        refine ⟨?_, ih t tail mm st' K _ a' w' C hok (by simp only [otDepth] at hd; omega) h3 h1 hLt hLf hC h2 hK⟩
        cases tail with
        | true =>
          obtain ⟨t', h4, h5⟩ := hLt rfl
          left; rw [h4]; exact h5
        | false => exact .inr (hC rfl w' ((h2 rfl).sat h1.sat))
      refine wpOp_of ho (fun hw => ?_) (fun hw => ?_)
      · rcases hg with ⟨_, hrun⟩ | ⟨hw', _⟩
        · split at hrun
          · rcases exP_sound (P := P) (E := E) (n := n) hΓ hrun with h1 | ⟨s, h1, h2⟩
            · exact h1.elim
            · refine Oper.wp_next (wp_value (K := fun st => st.bl = bl ∧ st.R = R ∧ exOrd P E Γ n l t tail mm st K) ((h2 a w hr').2 o.dst o.type o.pos o.after o.guard) hr' rfl (h2 a w hr').1 ?_) ?_
              · unfold putK at h1 ⊢
                split at h1
                · exact ⟨rfl, rfl, h1⟩
                · split at h1
                  · exact ⟨rfl, rfl, h1⟩
                  · exact h1.elim
              · rintro a' w' ⟨⟨fr2, bl2, R2⟩, h3, h4, h5, h6⟩
                simp only at h4 h5
                subst h4 h5
                exact fin _ a' w' h3 (fun ht => hM ht) h6
          · refine Oper.wp_next (exOp_sound hΓ hrun hr') ?_
            rintro a' w' ⟨st', h1, h2⟩
            cases ht : tail with
            | true =>
              rw [ht] at h2
              exact fin st' a' w' h1 (fun h0 => by rw [ht] at h0; cases h0) (by rw [ht]; exact h2)
            | false =>
              rw [ht] at h2
              cases hm : mm with
              | none =>
                rw [hm] at h2
                exact fin st' a' w' h1 (fun _ => by rw [hm]; trivial) (by rw [ht, hm]; exact h2)
              | some q =>
                rw [hm] at h2
                obtain ⟨h3, h4⟩ := h2
                have hM' := hM ht
                rw [hm] at hM'
                exact fin st' a' w' h1 (fun _ => by rw [hm]; exact ⟨hM'.1, h3⟩) (by rw [ht, hm]; exact h4)
        · rw [hw] at hw'; cases hw'
      · rcases hg with ⟨hw', _⟩ | ⟨_, hskip⟩
        · rw [hw] at hw'; cases hw'
        · obtain ⟨fr'', h3, h4⟩ := putK_sound (s := .v undef) hr' trivial hskip
          exact fin ⟨fr'', bl, R⟩ _ w h4 (fun ht => hM ht) h3
  | tl i t =>
    obtain ⟨fr, bl, R⟩ := st
    simp only [otOk, Bool.and_eq_true, beq_iff_eq] at hok
    obtain ⟨⟨hready, ht0⟩, hok⟩ := hok
    simp only [exOrd] at h
    split at h
    · exact h.elim
    · rename_i o ho
      refine ⟨(fun h0 => by rw [hready] at h0; cases h0), fun j hj => ?_⟩
      rw [hready] at hj
      obtain rfl : j = i := by simpa using hj
      obtain ⟨fr', hr', hg⟩ := guardK_sound h hr
      have fin : ∀ st' a' w', Rel E n st' a' w' → exOrd P E Γ n l t true mm st' K → SS t0 C (L.setIfInBounds j true) w' ∧ wpAnyG P ⟨l⟩ Q t0 C fuel (L.setIfInBounds j true) a' w' := by
        intro st' a' w' h1 h3
        refine ⟨?_, ih t true mm st' K _ a' w' C hok (by simp only [otDepth] at hd; omega) h3 h1 (fun _ => ⟨j, ht0, setT L j⟩) (fun h => by cases h) (fun h => by cases h) (fun h => by cases h) hK⟩
        left; rw [ht0]; exact setT L j
      refine wpOp_of ho (fun hw => ?_) (fun hw => ?_)
      · rcases hg with ⟨_, hrun⟩ | ⟨hw', _⟩
        · refine Oper.wp_next (exOp_sound hΓ hrun hr') ?_
          rintro a' w' ⟨st', h1, h2⟩
          exact fin st' a' w' h1 h2
        · rw [hw] at hw'; cases hw'
      · rcases hg with ⟨hw', _⟩ | ⟨_, hskip⟩
        · rw [hw] at hw'; cases hw'
        · obtain ⟨fr'', h3, h4⟩ := putK_sound (s := .v undef) hr' trivial hskip
          exact fin ⟨fr'', bl, R⟩ _ w h4 h3
  | alt i t rest => simp [otOk] at hok
  | hd r =>
    obtain ⟨fr, bl, R⟩ := st
    simp only [otOk, Bool.and_eq_true, Bool.not_eq_true', beq_iff_eq] at hok
    obtain ⟨⟨⟨htail, hready⟩, hne⟩, hok⟩ := hok
    subst htail
    simp only [exOrd] at h
    refine ⟨fun h0 => (by rw [hready] at h0; rw [h0] at hne; cases hne), fun j hj => ?_⟩
    rw [hready] at hj
    obtain ⟨t, h1, hjn, h2, h3⟩ := chain_get r mm L _ K j hj hok h
    simp only at h3
    split at h3
    · exact h3.elim
    · rename_i o ho
      obtain ⟨fr', hr', hg⟩ := guardK_sound h3 hr
      have hLf : ∀ t', t0 = some t' → (L.setIfInBounds j true).getD t' true = false := fun t' ht' => by
        rw [getD_set_ne true (fun e => hjn (by rw [ht', e]))]; exact htl2 rfl t' ht'
      have fin : ∀ st' a' w', Rel E n st' a' w' → mmIn mm st'.hall → exOrd P E Γ n l t false mm st' K → SS t0 C (L.setIfInBounds j true) w' ∧ wpAnyG P ⟨l⟩ Q t0 C fuel (L.setIfInBounds j true) a' w' := by
        intro st' a' w' h4 h5 h6
        exact ⟨.inr (hC rfl w' (h5.sat h4.sat)), ih t false mm st' K _ a' w' C h2 (by simp only [otDepth] at hd; omega) h6 h4 (fun h => by cases h) (fun _ => hLf) hC (fun _ => h5) hK⟩
      refine wpOp_of ho (fun hw => ?_) (fun hw => ?_)
      · rcases hg with ⟨_, hrun⟩ | ⟨hw', _⟩
        · refine Oper.wp_next (exOp_sound hΓ hrun hr') ?_
          rintro a' w' ⟨st', h4, h5⟩
          cases hm : mm with
          | none =>
            rw [hm] at h5
            exact fin st' a' w' h4 (by rw [hm]; trivial) (by rw [hm]; exact h5)
          | some q =>
            rw [hm] at h5
            obtain ⟨h6, h7⟩ := h5
            have hM' := hM rfl
            rw [hm] at hM'
            exact fin st' a' w' h4 (by rw [hm]; exact ⟨hM'.1, h6⟩) (by rw [hm]; exact h7)
        · rw [hw] at hw'; cases hw'
      · rcases hg with ⟨hw', _⟩ | ⟨_, hskip⟩
        · rw [hw] at hw'; cases hw'
        · obtain ⟨fr'', h4, h5⟩ := putK_sound (s := .v undef) hr' trivial hskip
          exact fin ⟨fr'', bl, R⟩ _ w h5 (hM rfl) h4

def noPanic (Q : Exit → Act → World → Prop) (e : Exit) (a : Act) (w : World) : Prop :=
  match e with
  | .panic _ => False
  | e => Q e a w

/-- A statement that leaves its order open: the order ot serves. -/
theorem draw (hΓ : TyOk P Γ) (hm : P.follows .mixedOrders = true) {id : Nat} {l : List Oper} {st : St} {K : St → Prop} (t0 : Option Nat) (ot : OT)
    (hck : (Region.noSelect ⟨l⟩ && otOk ⟨l⟩ t0 ot (Array.replicate l.length false) false && Nat.ble (otDepth ot) l.length && (match t0 with | some t => Nat.blt t l.length | none => true)) = true)
    (h : exOrd P E Γ n l ot false none st K) : VCdraw P E n id ⟨l⟩ st K := by
  simp only [Bool.and_eq_true] at hck
  obtain ⟨⟨⟨hsel, hok⟩, hd⟩, ht⟩ := hck
  refine ⟨fun a w hr Q hK => ?_⟩
  have hr' : Rel E n st a { w with drawn := w.drawn + 1 } := ⟨hr.size, hr.defers, hr.val, ⟨hr.sat.os, hr.sat.out, hr.sat.tape, hr.sat.mem, hr.sat.nodup, Nat.le_trans hr.sat.dr (Nat.le_succ _)⟩⟩
  have := wp_region_any (P := P) (Q := noPanic (lift E n Q)) (id := id) (a := a) (w := w) hm (wpAny_of_G l.length _ _ _ (exOrd_sound (t0 := t0) (Q := noPanic (lift E n Q)) hΓ hsel (fun c a w h => h) l.length ot false none st K (Array.replicate l.length false) a _ (fun _ => True) hok (Nat.le_of_ble_eq_true hd) h hr'
    (fun h => by cases h) (fun _ t ht' => by
      rw [ht'] at ht
      have hlt : t < l.length := by simpa using ht
      simp [Array.getD_eq_getD_getElem?, hlt]) (fun _ _ _ => trivial) (fun _ => trivial) (fun st a w h1 h2 => ⟨st, h1, hK st h2⟩)))
  refine wp_mono this ?_
  intro e a' w' he
  cases e <;> first | exact he | exact he.elim

/-- the ways of an open statement meet again: of what stands behind it, J is kept -/
theorem draw_join {α : Type} {id : Nat} {opsA : Array Oper} {st : St} {K : St → Prop} (J : α → St) (I : α → Prop)
    (h1 : VCdraw P E n id opsA st (fun st' => ∃ z, I z ∧ Weak st' (J z))) (h2 : ∀ z, I z → K (J z)) : VCdraw P E n id opsA st K := by
  obtain ⟨h1⟩ := h1
  refine ⟨fun a w hr Q hK => ?_⟩
  refine wp_mono (h1 a w hr (fun e st => e = .normal ∧ ∃ z, I z ∧ Weak st (J z)) (fun st hst => ⟨rfl, hst⟩)) ?_
  rintro e a' w' ⟨st', h3, rfl, z, h4, h5⟩
  exact ⟨J z, h5.rel h3, hK _ (h2 z h4)⟩

end
end Go.SX
