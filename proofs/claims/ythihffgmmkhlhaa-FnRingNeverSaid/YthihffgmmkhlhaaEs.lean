/-
  A ring whose messages are all taken and whose workers all rest comes to its end (plain). Conditions: none.
-/
import Derived.Test.YthihffgmmkhlhaaEr
import Derived.Test.YthihffgmmkhlhaaDc
namespace Go.Proofs.Ythihffgmmkhlhaa
open Go.SX Go.Proofs
set_option linter.unusedSimpArgs false
set_option linter.unusedVariables false
set_option maxHeartbeats 1000000

/-- bounds -/
structure Bd (r : Ring) (a f b : Int) : Prop where
  c : ∀ i, -a ≤ r.C i ∧ r.C i ≤ a
  fl : (r.flying.length : Int) ≤ f
  nu : -b ≤ r.num ∧ r.num ≤ b

theorem ok_of {r : Ring} (h1 : 1 ≤ r.actives.length) (h2 : r.actives.length ≤ 8) (h3 : r.counts.length = r.actives.length) (h4 : r.blacks.length = r.actives.length) (h5 : r.flying.length ≤ 100)
    (h6 : 0 ≤ r.held ∧ r.held < r.actives.length) (h7 : -8000 ≤ r.num ∧ r.num ≤ 8000) (h8 : ∀ i, -1000 ≤ r.C i ∧ r.C i ≤ 1000) (h9 : ∀ x ∈ r.flying, 0 ≤ x ∧ x < r.actives.length) : ringOk r = true := by
  have e1 : r.counts.all (inR (-1000) 1000) = true := by
    rw [List.all_eq_true]
    intro x hx
    obtain ⟨i, hi, rfl⟩ := List.getElem_of_mem hx
    have := h8 i
    simp only [Ring.C, List.getElem?_eq_getElem hi, Option.getD_some] at this
    simp [inR, this.1, this.2]
  have e2 : r.flying.all (inR 0 (r.actives.length - 1)) = true := by
    rw [List.all_eq_true]
    intro x hx
    have := h9 x hx
    simp only [inR, Bool.and_eq_true, decide_eq_true_eq]; omega
  simp only [ringOk, e1, e2, Bool.and_true, Bool.and_eq_true, inR, decide_eq_true_eq, beq_iff_eq]
  refine ⟨⟨⟨⟨⟨⟨?_, ?_⟩, ?_⟩, ?_⟩, ?_⟩, ?_⟩, ?_⟩ <;> omega

theorem ok_fly {r : Ring} (h : ringOk r = true) : ∀ x ∈ r.flying, 0 ≤ x ∧ x < r.actives.length := by
  have h3 : r.flying.all (inR 0 (r.actives.length - 1)) = true := by
    simp only [ringOk, Bool.and_eq_true] at h; exact h.2
  intro x hx
  have := List.all_eq_true.1 h3 x hx
  have := inR_le this
  omega

theorem bd_step (r : Ring) (t : Turn) (a f b : Int) (h : Bd r a f b) (h0 : 0 ≤ a) (hb : 0 ≤ b) : Bd (ringStep r t).1 (a + 1) (f + 1) (b + a) := by
  have hw : Bd r (a + 1) (f + 1) (b + a) := ⟨fun i => by have := h.c i; omega, by have := h.fl; omega, by have := h.nu; omega⟩
  unfold ringStep
  split
  · rename_i hc
    obtain ⟨h1, _, h3, _⟩ := hc
    have hl := ringOk_len h1
    simp only [turnOk] at h3
    simp only [turnT]
    by_cases k1 : t.kind = 1
    · simp only [k1, if_true, Bool.and_eq_true] at h3 ⊢
      have hi := inR_le h3.1.1
      refine ⟨fun i => ?_, ?_, hw.nu⟩
      · show -(a + 1) ≤ (r.counts.set _ _)[i]?.getD 0 ∧ (r.counts.set _ _)[i]?.getD 0 ≤ a + 1
        rw [getI_set _ _ _ _ (by omega)]
        have := h.c i
        have := h.c t.at'.toNat
        simp only [Ring.C] at *
        split <;> omega
      · show ((r.flying ++ [t.to]).length : Int) ≤ _
        have := h.fl
        rw [List.length_append]; simp; omega
    · by_cases k2 : t.kind = 2
      · simp only [k2, if_true, show ¬ ((2 : Int) = 1) by decide, if_false] at h3 ⊢
        have hi := inR_le h3
        have hf := ringOk_fly h1 t.at'.toNat (by omega)
        refine ⟨fun i => ?_, ?_, hw.nu⟩
        · show -(a + 1) ≤ (r.counts.set _ _)[i]?.getD 0 ∧ (r.counts.set _ _)[i]?.getD 0 ≤ a + 1
          rw [getI_set _ _ _ _ (by omega)]
          have := h.c i
          have := h.c (r.flying[t.at'.toNat]?.getD 0).toNat
          simp only [Ring.C] at *
          split <;> omega
        · show ((r.flying.take _ ++ r.flying.drop _).length : Int) ≤ _
          have := h.fl
          rw [List.length_append, List.length_take, List.length_drop]; omega
      · by_cases k3 : t.kind = 3
        · simp only [k3, if_true, show ¬ ((3 : Int) = 1) by decide, show ¬ ((3 : Int) = 2) by decide, if_false] at h3 ⊢
          exact ⟨hw.c, hw.fl, hw.nu⟩
        · simp only [k1, k2, k3, if_false] at h3 ⊢
          unfold passT
          split
          · exact ⟨hw.c, hw.fl, hw.nu⟩
          · refine ⟨hw.c, hw.fl, ?_⟩
            have := h.c r.held.toNat
            have := h.nu
            simp only [Ring.C] at *
            split <;> omega
  · exact hw

def tri : Nat → Int
  | 0 => 0
  | k + 1 => tri k + k
theorem tri_nn : ∀ k, 0 ≤ tri k
  | 0 => Int.le_refl _
  | k + 1 => by have := tri_nn k; unfold tri; omega
theorem tri_mono {j k : Nat} (h : j ≤ k) : tri j ≤ tri k := by
  induction h with
  | refl => exact Int.le_refl _
  | step _ ih =>
    rename_i m _
    have : tri m.succ = tri m + m := rfl
    omega
theorem bd_run (n : Nat) (ts : List Turn) : Bd (runN (ringNew n) ts).1 ts.length ts.length (tri ts.length) := by
  have : ∀ (ts : List Turn) (p : Ring × List Int) (s : Nat), Bd p.1 s s (tri s) → Bd (ts.foldl runF p).1 (s + ts.length : Nat) (s + ts.length : Nat) (tri (s + ts.length)) := by
    intro ts
    induction ts with
    | nil => intro p s h; exact h
    | cons t r ih =>
      intro p s h
      rw [List.foldl_cons]
      have h1 := bd_step p.1 t s s (tri s) h (by omega) (tri_nn s)
      have h2 := ih (runF p t) (s + 1) h1
      rw [List.length_cons, show s + (r.length + 1) = s + 1 + r.length by omega]
      exact h2
  have h0 : Bd (ringNew n) ((0 : Nat) : Int) ((0 : Nat) : Int) (tri 0) := by
    refine ⟨fun i => ?_, by simp [ringNew], by simp [ringNew, tri]⟩
    show _ ≤ (List.replicate n (0 : Int))[i]?.getD 0 ∧ (List.replicate n (0 : Int))[i]?.getD 0 ≤ _
    by_cases hi : i < n
    · simp [hi]
    · rw [List.getElem?_eq_none (by simp; omega)]; simp
  have := this ts (ringNew n, []) 0 h0
  rw [Nat.zero_add] at this
  exact this

theorem stepN_add (t : Turn) (r : Ring) (k : Nat) : ∀ j, stepN (fun _ => t) (k + j) r = stepN (fun _ => t) j (stepN (fun _ => t) k r)
  | 0 => rfl
  | j + 1 => by
    show (ringStep (stepN (fun _ => t) (k + j) r) t).1 = _
    rw [stepN_add t r k j]; rfl
theorem stepN_one (t : Turn) (r : Ring) (k : Nat) : stepN (fun _ => t) (k + 1) r = stepN (fun _ => t) k (ringStep r t).1 := by
  rw [Nat.add_comm]; exact stepN_add t r 1 k
theorem stepN_over (f : Nat → Turn) (r : Ring) (h : r.over = true) : ∀ k, stepN f k r = r
  | 0 => rfl
  | k + 1 => by
    show (ringStep (stepN f k r) (f k)).1 = r
    rw [stepN_over f r h k]
    unfold ringStep
    rw [if_neg (by simp [h])]
theorem stepN_inv (f : Nat → Turn) (r : Ring) (h : InvR r) : ∀ k, InvR (stepN f k r)
  | 0 => h
  | k + 1 => inv_step _ _ (stepN_inv f r h k)

/-- all messages are taken -/
theorem takes (m : Nat) : ∀ (r : Ring) (a b : Int), InvR r → r.over = false → r.flying.length = m → Bd r a 77 b → 0 ≤ a → a + m ≤ 1000 → b ≤ 8000 →
    (stepN (fun _ => tTake) m r).flying = [] ∧ (stepN (fun _ => tTake) m r).over = false ∧ Bd (stepN (fun _ => tTake) m r) (a + m) 77 b := by
  induction m with
  | zero =>
    intro r a b hi ho hm hb h0 _ _
    exact ⟨List.length_eq_zero_iff.1 hm, ho, by simpa [stepN] using hb⟩
  | succ m ih =>
    intro r a b hi ho hm hb h0 h1 h2
    have hok := hi.1
    have hl := ringOk_len hok
    have hh := ringOk_held hok
    have hf := ringOk_fly hok 0 (by omega)
    have hok2 : ringOk (takeT r 0) = true := by
      refine ok_of ?_ ?_ ?_ ?_ ?_ ?_ ?_ ?_ ?_
      · simp [takeT]; omega
      · simp [takeT]; omega
      · simp [takeT]; omega
      · simp [takeT]; omega
      · simp [takeT]; omega
      · show 0 ≤ r.held ∧ r.held < ((r.actives.set _ _).length : Nat); rw [List.length_set]; omega
      · show -8000 ≤ r.num ∧ r.num ≤ 8000; omega
      · intro i
        show _ ≤ (r.counts.set _ _)[i]?.getD 0 ∧ (r.counts.set _ _)[i]?.getD 0 ≤ _
        rw [getI_set _ _ _ _ (by omega)]
        have := hb.c i
        have := hb.c (r.flying[0]?.getD 0).toNat
        simp only [Ring.C] at *
        split <;> omega
      · intro x hx
        show 0 ≤ x ∧ x < ((r.actives.set _ _).length : Nat)
        rw [List.length_set]
        refine ok_fly hok x ?_
        simp only [takeT, List.take_zero, List.nil_append] at hx
        exact List.mem_of_mem_drop hx
    have hs : ringStep r tTake = (takeT r 0, true) := by
      unfold ringStep
      rw [if_pos ⟨hok, ho, by simp [turnOk, tTake, inR]; omega, by simpa [turnT, tTake] using hok2⟩]
      simp [turnT, tTake]
    rw [stepN_one, hs]
    have hi2 : InvR (takeT r 0) := by have := inv_step r tTake hi; rw [hs] at this; exact this
    have hb2 : Bd (takeT r 0) (a + 1) 77 b := by
      refine ⟨fun i => ?_, ?_, hb.nu⟩
      · show _ ≤ (r.counts.set _ _)[i]?.getD 0 ∧ (r.counts.set _ _)[i]?.getD 0 ≤ _
        rw [getI_set _ _ _ _ (by omega)]
        have := hb.c i
        have := hb.c (r.flying[0]?.getD 0).toNat
        simp only [Ring.C] at *
        split <;> omega
      · have := hb.fl
        simp [takeT]; omega
    obtain ⟨g1, g2, g3⟩ := ih (takeT r 0) (a + 1) b hi2 ho (by simp [takeT]; omega) hb2 (by omega) (by omega) h2
    refine ⟨g1, g2, ?_⟩
    rw [show a + ((m + 1 : Nat) : Int) = a + 1 + m by omega]
    exact g3

theorem restT_ok (r : Ring) (i : Nat) : ringOk (restT r i) = ringOk r := by unfold ringOk restT; simp only [List.length_set]
/-- all rest -/
theorem rests (r : Ring) (hok : ringOk r = true) (ho : r.over = false) : ∀ k, k ≤ r.actives.length →
    (∀ i, i < k → (stepN tRest k r).A i = false) ∧ ∃ av, stepN tRest k r = { r with actives := av } ∧ av.length = r.actives.length := by
  intro k
  induction k with
  | zero => intro _; exact ⟨fun i h => absurd h (by omega), r.actives, rfl, rfl⟩
  | succ k ih =>
    intro hk
    obtain ⟨g1, av, g2, g3⟩ := ih (by omega)
    have hst : stepN tRest (k + 1) r = (ringStep (stepN tRest k r) (tRest k)).1 := rfl
    have hl := ringOk_len hok
    have hok1 := stepN_ok tRest r hok k
    rw [hst]
    have hok2 : ringOk (restT (stepN tRest k r) k) = true := by rw [restT_ok]; exact hok1
    cases ha : (stepN tRest k r).A k with
    | true =>
      have hto : turnOk (stepN tRest k r) (tRest k) = true := by
        have hl2 : (stepN tRest k r).actives.length = r.actives.length := stepN_len tRest r k
        have e1 : inR 0 ((stepN tRest k r).actives.length - 1) (k : Int) = true := by rw [hl2]; simp only [inR, Bool.and_eq_true, decide_eq_true_eq]; omega
        have e2 : (stepN tRest k r).actives[((k : Int)).toNat]?.getD false = true := ha
        simp only [turnOk, tRest, show ¬ ((3 : Int) = 1) by decide, show ¬ ((3 : Int) = 2) by decide, if_false, if_true, e1, e2, Bool.and_self]
      have htt : turnT (stepN tRest k r) (tRest k) = restT (stepN tRest k r) k := by simp [turnT, tRest]
      have hov : (stepN tRest k r).over = false := by rw [g2]; exact ho
      have hs : ringStep (stepN tRest k r) (tRest k) = (restT (stepN tRest k r) k, true) := by
        unfold ringStep
        rw [if_pos ⟨hok1, hov, hto, by rw [htt]; exact hok2⟩, htt]
      rw [hs]
      refine ⟨fun i hi => ?_, av.set k false, ?_, by simp [g3]⟩
      · show ((stepN tRest k r).actives.set k false)[i]?.getD false = false
        rw [getB_set _ _ _ _ (by rw [stepN_len]; omega)]
        split
        · rfl
        · exact g1 i (by omega)
      · rw [g2]; rfl
    | false =>
      have hs : ringStep (stepN tRest k r) (tRest k) = (stepN tRest k r, false) := by
        unfold ringStep
        rw [if_neg]
        rintro ⟨_, _, h3, _⟩
        simp only [turnOk, tRest, show ¬ ((3 : Int) = 1) by decide, show ¬ ((3 : Int) = 2) by decide, if_false, if_true, Bool.and_eq_true] at h3
        have := h3.2
        simp only [Int.toNat_natCast] at this
        rw [show (stepN tRest k r).actives[k]?.getD false = false from ha] at this; cases this
      rw [hs]
      refine ⟨fun i hi => ?_, av, g2, g3⟩
      by_cases hik : i = k
      · rw [hik]; exact ha
      · exact g1 i (by omega)

/-- a ring at rest -/
structure Rest (r : Ring) : Prop where
  ok : ringOk r = true
  n4 : r.actives.length ≤ 4
  no : r.over = false
  act : ∀ i, r.A i = false
  fly : r.flying = []
  sum : sm r.counts r.actives.length = 0
  c : ∀ i, -154 ≤ r.C i ∧ r.C i ≤ 154
  nu : -(3000 + 154 * (r.e : Int)) ≤ r.num ∧ r.num ≤ 3000 + 154 * (r.e : Int)

theorem e_bd {r : Ring} (h : ringOk r = true) : 1 ≤ r.e ∧ r.e ≤ r.actives.length := by
  have := ringOk_held h
  have := ringOk_len h
  unfold Ring.e; split <;> omega

theorem pass_fields (r : Ring) (hn : over1 r = false) : (passT r).actives = r.actives ∧ (passT r).counts = r.counts ∧ (passT r).flying = r.flying ∧ (passT r).over = r.over ∧
    (passT r).num = (if r.held = 0 then 0 else r.num + r.C r.held.toNat) ∧ (passT r).black = (if r.held = 0 then false else (r.black || r.B r.held.toNat)) ∧ (passT r).blacks = r.blacks.set r.held.toNat false ∧
    (passT r).held = (r.held + 1).tmod r.actives.length := by
  have hp : passT r = { r with num := if r.held = 0 then 0 else r.num + r.counts[r.held.toNat]?.getD 0
                               black := if r.held = 0 then false else (r.black || r.blacks[r.held.toNat]?.getD false)
                               blacks := r.blacks.set r.held.toNat false
                               held := (r.held + 1).tmod r.actives.length } := by unfold passT; rw [hn]; rfl
  rw [hp]
  exact ⟨rfl, rfl, rfl, rfl, rfl, rfl, rfl, rfl⟩

/-- the token goes on: the ring ends, or it is at rest still -/
theorem rest_pass (r : Ring) (h : Rest r) : (over1 r = true ∧ (ringStep r tPass).1 = { r with over := true }) ∨ (over1 r = false ∧ (ringStep r tPass).1 = passT r ∧ Rest (passT r)) := by
  have hh := ringOk_held h.ok
  have hl := ringOk_len h.ok
  have hto : turnOk r tPass = true := by
    simp only [turnOk, tPass, show ¬ ((4 : Int) = 1) by decide, show ¬ ((4 : Int) = 2) by decide, show ¬ ((4 : Int) = 3) by decide, if_false, if_true]
    rw [show r.actives[r.held.toNat]?.getD false = false from h.act _]; rfl
  have htt : turnT r tPass = passT r := by simp [turnT, tPass]
  cases hn : over1 r with
  | true =>
    left
    refine ⟨rfl, ?_⟩
    have hp : passT r = { r with over := true } := by unfold passT; rw [hn]; rfl
    unfold ringStep
    rw [if_pos ⟨h.ok, h.no, hto, by rw [htt, hp]; exact h.ok⟩, htt, hp]
  | false =>
    right
    obtain ⟨p1, p2, p3, p4, p5, p6, p7, p8⟩ := pass_fields r hn
    have hpe := pass_e r h.ok hn
    have heb := e_bd h.ok
    have hnu := h.nu
    have hcc := h.c r.held.toNat
    have hok : ringOk (passT r) = true := by
      refine ok_of ?_ ?_ ?_ ?_ ?_ ?_ ?_ ?_ ?_
      · rw [p1]; omega
      · rw [p1]; omega
      · rw [p1, p2]; omega
      · rw [p1, p7, List.length_set]; omega
      · rw [p3, h.fly]; simp
      · rw [p8, p1]; exact tmod_lt _ _ (by omega) (by omega)
      · have := h.n4
        rw [p5]
        simp only [Ring.C] at *
        split <;> omega
      · intro i
        have := h.c i
        simp only [Ring.C, p2] at *; omega
      · rw [p3, h.fly]; intro x hx; cases hx
    refine ⟨rfl, ?_, hok, by rw [p1]; exact h.n4, by rw [p4]; exact h.no, fun i => by simp only [Ring.A, p1]; exact h.act i, by rw [p3]; exact h.fly, by rw [p1, p2]; exact h.sum, fun i => by simp only [Ring.C, p2]; exact h.c i, ?_⟩
    · unfold ringStep
      rw [if_pos ⟨h.ok, h.no, hto, by rw [htt]; exact hok⟩, htt]
    · rw [hpe, p5]
      simp only [Ring.C] at *
      by_cases h0 : r.held = 0
      · simp only [h0, if_true]; omega
      · simp only [h0, if_false]
        have he : r.e = r.held.toNat := by unfold Ring.e; rw [if_neg h0]
        rw [he] at hnu; omega

/-- how far a round is known to be clean -/
def Ph : Nat → Ring → Prop
  | 0, _ => True
  | 1, r => (∀ i, i < r.e → r.B i = false) ∧ sm r.counts r.e - sm r.counts 1 = r.num
  | _ + 2, r => (∀ i, r.B i = false) ∧ r.black = false ∧ sm r.counts r.e - sm r.counts 1 = r.num

theorem ph_pass (p : Nat) (r : Ring) (h : Rest r) (hp : Ph p r) (hn : over1 r = false) (h0 : ¬ r.held = 0) : Ph p (passT r) := by
  obtain ⟨p1, p2, p3, p4, p5, p6, p7, p8⟩ := pass_fields r hn
  have hh := ringOk_held h.ok
  have hl := ringOk_len h.ok
  have hpe := pass_e r h.ok hn
  rw [if_neg h0] at hpe
  have he : r.e = r.held.toNat := by unfold Ring.e; rw [if_neg h0]
  have hB : ∀ i, (passT r).B i = if r.held.toNat = i then false else r.B i := fun i => by
    simp only [Ring.B, p7]; exact getB_set _ _ _ _ (by omega)
  have hs : sm r.counts (r.held.toNat + 1) = sm r.counts r.held.toNat + r.C r.held.toNat := rfl
  match p, hp with
  | 0, _ => trivial
  | 1, ⟨g1, g2⟩ =>
    refine ⟨fun i hi => ?_, ?_⟩
    · rw [hB]; split
      · rfl
      · rw [hpe] at hi; exact g1 i (by omega)
    · rw [hpe, p2, p5, if_neg h0]; rw [he] at g2; omega
  | q + 2, ⟨g1, g2, g3⟩ =>
    refine ⟨fun i => ?_, ?_, ?_⟩
    · rw [hB]; split
      · rfl
      · exact g1 i
    · rw [p6, if_neg h0, g2, g1]; rfl
    · rw [hpe, p2, p5, if_neg h0]; rw [he] at g3; omega

theorem ph_next (p : Nat) (r : Ring) (h : Rest r) (hp : Ph p r) (hn : over1 r = false) (h0 : r.held = 0) : Ph (p + 1) (passT r) ∧ p < 2 := by
  obtain ⟨p1, p2, p3, p4, p5, p6, p7, p8⟩ := pass_fields r hn
  have hh := ringOk_held h.ok
  have hl := ringOk_len h.ok
  have hpe := pass_e r h.ok hn
  rw [if_pos h0] at hpe
  have he : r.e = r.actives.length := by unfold Ring.e; rw [if_pos h0]
  have hB : ∀ i, (passT r).B i = if r.held.toNat = i then false else r.B i := fun i => by
    simp only [Ring.B, p7]; exact getB_set _ _ _ _ (by omega)
  match p, hp with
  | 0, _ =>
    refine ⟨⟨fun i hi => ?_, ?_⟩, by omega⟩
    · rw [hpe] at hi
      rw [hB, if_pos (by omega)]
    · rw [hpe, p5, if_pos h0]; omega
  | 1, ⟨g1, g2⟩ =>
    refine ⟨⟨fun i => ?_, by rw [p6, if_pos h0], by rw [hpe, p5, if_pos h0]; omega⟩, by omega⟩
    rw [hB]; split
    · rfl
    · by_cases hi : i < r.actives.length
      · exact g1 i (by omega)
      · simp only [Ring.B]; rw [List.getElem?_eq_none (by omega)]; rfl
  | q + 2, ⟨g1, g2, g3⟩ =>
    exfalso
    have hs1 : sm r.counts 1 = r.counts[0]?.getD 0 := by simp [sm]
    have hsum := h.sum
    rw [he] at g3
    have : over1 r = true := by
      simp only [over1, h0, g2, show r.blacks[0]?.getD false = false from g1 0, Bool.not_false, Bool.and_true, Bool.and_eq_true, beq_iff_eq, beq_self_eq_true, true_and]
      omega
    rw [this] at hn; cases hn

def Done (r r' : Ring) : Prop := r'.over = true ∧ ringQuiet r' = true ∧ ringSum r' = true ∧ r'.actives.length = r.actives.length

theorem rest_done (r : Ring) (h : Rest r) : Done r { r with over := true } := by
  refine ⟨rfl, quiet_of _ (fun i _ => h.act i) h.fly, ?_, rfl⟩
  have := sm_sum r.counts r.counts.length (Nat.le_refl _)
  rw [List.take_length] at this
  have hl := ringOk_len h.ok
  have hs := h.sum
  have hk : ringOk { r with over := true } = true := h.ok
  simp only [ringSum, hk, Bool.true_and, beq_iff_eq]
  rw [← this, hl.2.2.1, h.sum, h.fly]; rfl

theorem phase (p : Nat) : ∀ (d : Nat) (r : Ring), Rest r → Ph p r → r.actives.length - r.e = d →
    ∃ k, k ≤ d + 1 ∧ (Done r (stepN (fun _ => tPass) k r) ∨ (p < 2 ∧ Rest (stepN (fun _ => tPass) k r) ∧ Ph (p + 1) (stepN (fun _ => tPass) k r) ∧ (stepN (fun _ => tPass) k r).actives.length = r.actives.length)) := by
  intro d
  induction d with
  | zero =>
    intro r h hp hd
    have heb := e_bd h.ok
    have hh := ringOk_held h.ok
    have h0 : r.held = 0 := by
      by_cases h0 : r.held = 0
      · exact h0
      · exfalso
        have he : r.e = r.held.toNat := by unfold Ring.e; rw [if_neg h0]
        omega
    refine ⟨1, by omega, ?_⟩
    show Done r (ringStep r tPass).1 ∨ (p < 2 ∧ Rest (ringStep r tPass).1 ∧ Ph (p + 1) (ringStep r tPass).1 ∧ (ringStep r tPass).1.actives.length = r.actives.length)
    rcases rest_pass r h with ⟨hn, hs⟩ | ⟨hn, hs, hr⟩
    · left; rw [hs]; exact rest_done r h
    · right
      obtain ⟨g1, g2⟩ := ph_next p r h hp hn h0
      rw [hs]
      exact ⟨g2, hr, g1, by rw [(pass_fields r hn).1]⟩
  | succ d ih =>
    intro r h hp hd
    have heb := e_bd h.ok
    have hh := ringOk_held h.ok
    have h0 : ¬ r.held = 0 := by
      intro h0
      have he : r.e = r.actives.length := by unfold Ring.e; rw [if_pos h0]
      omega
    have hn : over1 r = false := by
      cases hn : over1 r with
      | false => rfl
      | true => simp only [over1, Bool.and_eq_true, beq_iff_eq] at hn; exact absurd hn.1.1.1 h0
    rcases rest_pass r h with ⟨hn', _⟩ | ⟨_, hs, hr⟩
    · rw [hn] at hn'; cases hn'
    · have hpe := pass_e r h.ok hn
      rw [if_neg h0] at hpe
      have he : r.e = r.held.toNat := by unfold Ring.e; rw [if_neg h0]
      have hact := (pass_fields r hn).1
      obtain ⟨k, hk, hres⟩ := ih (passT r) hr (ph_pass p r h hp hn h0) (by rw [hpe, hact]; omega)
      refine ⟨k + 1, by omega, ?_⟩
      rw [stepN_one, hs]
      rcases hres with g | ⟨g1, g2, g3, g4⟩
      · left; exact ⟨g.1, g.2.1, g.2.2.1, by rw [g.2.2.2, hact]⟩
      · right; exact ⟨g1, g2, g3, by rw [g4, hact]⟩

theorem rest_calm (r : Ring) (h : Rest r) (N : Nat) (hN : 3 * r.actives.length ≤ N) : Done r (stepN (fun _ => tPass) N r) := by
  have key : ∀ (q : Nat) (r : Ring) (p : Nat), p + q = 2 → Rest r → Ph p r → ∃ k, k ≤ (q + 1) * r.actives.length ∧ Done r (stepN (fun _ => tPass) k r) := by
    intro q
    induction q with
    | zero =>
      intro r p hpq h hp
      have heb := e_bd h.ok
      obtain ⟨k, hk, hres⟩ := phase p _ r h hp rfl
      rcases hres with g | ⟨g, _⟩
      · exact ⟨k, by omega, g⟩
      · omega
    | succ q ih =>
      intro r p hpq h hp
      have heb := e_bd h.ok
      obtain ⟨k, hk, hres⟩ := phase p _ r h hp rfl
      rcases hres with g | ⟨_, g2, g3, g4⟩
      · refine ⟨k, ?_, g⟩
        have : 1 * r.actives.length ≤ (q + 1 + 1) * r.actives.length := Nat.mul_le_mul_right _ (by omega)
        omega
      · obtain ⟨k2, hk2, g5⟩ := ih _ (p + 1) (by omega) g2 g3
        refine ⟨k + k2, ?_, ?_⟩
        · rw [g4] at hk2
          have : (q + 1 + 1) * r.actives.length = (q + 1) * r.actives.length + r.actives.length := Nat.succ_mul _ _
          omega
        · rw [stepN_add]
          exact ⟨g5.1, g5.2.1, g5.2.2.1, by rw [g5.2.2.2, g4]⟩
  obtain ⟨k, hk, g⟩ := key 2 r 0 rfl h trivial
  have hkN : N = k + (N - k) := by
    have : (2 + 1) * r.actives.length = 3 * r.actives.length := rfl
    omega
  rw [hkN, stepN_add, stepN_over _ _ g.1]
  exact g

theorem takes_upto (r : Ring) (k N : Nat) (hk : k ≤ N) (h : (stepN (fun _ => tTake) k r).flying = []) : stepN (fun _ => tTake) N r = stepN (fun _ => tTake) k r := by
  obtain ⟨j, rfl⟩ := Nat.exists_eq_add_of_le hk
  exact takes_stay r k h j
theorem calmB_eq (r : Ring) : calmB r = stepN tRest r.actives.length (calmA r) := rfl

theorem rest_of (x y : Ring) (a : Int) {av : List Bool} (hi : InvR y) (h4 : y.actives.length ≤ 4) (g1 : x.flying = []) (g2 : x.over = false) (g3 : Bd x a 77 3000) (ha : a ≤ 154) (q1 : ∀ i, i < x.actives.length → y.A i = false)
    (q2 : y = { x with actives := av }) (hl : y.actives.length = x.actives.length := by omega) : Rest y := by
  have e1 : y.flying = [] := by rw [q2]; exact g1
  refine ⟨hi.1, h4, by rw [q2]; exact g2, fun i => ?_, e1, ?_, fun i => ?_, ?_⟩
  · by_cases hi : i < x.actives.length
    · exact q1 i hi
    · simp only [Ring.A]; rw [List.getElem?_eq_none (by omega)]; rfl
  · rw [hi.2.1, e1]; rfl
  · have := g3.c i
    have hc : y.C i = x.C i := by rw [q2]
    rw [hc]; omega
  · have := g3.nu
    have heb := e_bd hi.1
    have hnum : y.num = x.num := by rw [q2]
    rw [hnum]; omega

theorem calm_run (n : Int) (ts : List Turn) (h1 : 1 ≤ n) (h2 : n ≤ 4) (h3 : ts.length ≤ 77) : (calm (runRing n ts).1).over = true ∧ ringQuiet (calm (runRing n ts).1) = true ∧ ringSum (calm (runRing n ts).1) = true := by
  have hk : runOk n ts = true := by simp [runOk, inR]; omega
  have hi := inv_run n ts h1 (by omega) (by omega)
  have hb := bd_run n.toNat ts
  have hlen : (runRing n ts).1.actives.length = n.toNat := by
    rw [runRing, hk, if_pos rfl]
    have : ∀ (ts : List Turn) (p : Ring × List Int), (ts.foldl runF p).1.actives.length = p.1.actives.length := by
      intro ts
      induction ts with
      | nil => intro p; rfl
      | cons t r ih => intro p; rw [List.foldl_cons, ih]; exact step_len _ _
    rw [runN, this]; simp [ringNew]
  have hrr : runRing n ts = runN (ringNew n.toNat) ts := by rw [runRing, hk, if_pos rfl]
  rw [← hrr] at hb
  generalize hr : (runRing n ts).1 = r at *
  cases ho : r.over with
  | true =>
    have e1 : calmA r = r := stepN_over _ _ ho _
    have e2 : calmB r = r := by unfold calmB; rw [e1]; exact stepN_over _ _ ho _
    have e3 : calm r = r := by unfold calm; rw [e2]; exact stepN_over _ _ ho _
    rw [e3]
    exact ⟨ho, hi.2.2.1 ho, inv_sum r hi⟩
  | false =>
    have ht : tri ts.length ≤ 3000 := by
      have := tri_mono h3
      have h77 : tri 77 = 2926 := by decide
      omega
    have hb' : Bd r 77 77 3000 := ⟨fun i => by have := hb.c i; omega, by have := hb.fl; omega, by have := hb.nu; omega⟩
    have hfl := hb'.fl
    obtain ⟨g1, g2, g3⟩ := takes r.flying.length r 77 3000 hi ho rfl hb' (by omega) (by omega) (by omega)
    have eA : calmA r = stepN (fun _ => tTake) r.flying.length r := by
      exact takes_upto r _ 110 (by omega) g1
    have hiA : InvR (calmA r) := (congrArg InvR eA).mpr (stepN_inv _ _ hi _)
    have hlA : (calmA r).actives.length = n.toNat := (congrArg (fun q : Ring => q.actives.length) eA).trans ((stepN_len _ _ _).trans hlen)
    replace g1 := (congrArg Ring.flying eA).trans g1
    replace g2 := (congrArg Ring.over eA).trans g2
    replace g3 := (congrArg (fun q => Bd q (77 + (r.flying.length : Int)) 77 3000) eA).mpr g3
    obtain ⟨q1, av, q2, q3⟩ := rests (calmA r) hiA.1 g2 (calmA r).actives.length (Nat.le_refl _)
    have eB : calmB r = stepN tRest (calmA r).actives.length (calmA r) := (calmB_eq r).trans (congrArg (fun k => stepN tRest k (calmA r)) (hlen.trans hlA.symm))
    have hiB : InvR (calmB r) := by rw [eB]; exact stepN_inv _ _ hiA _
    have hlB : (calmB r).actives.length = n.toNat := by rw [eB, stepN_len]; exact hlA
    rw [← eB] at q1 q2
    have hrest : Rest (calmB r) := rest_of _ _ _ hiB (by omega) g1 g2 g3 (by omega) q1 q2
    have hd := rest_calm (calmB r) hrest (4 + 4 * r.actives.length) (by omega)
    have e3 : calm r = stepN (fun _ => tPass) (4 + 4 * r.actives.length) (calmB r) := rfl
    rw [e3]
    exact ⟨hd.1, hd.2.1, hd.2.2.1⟩
end Go.Proofs.Ythihffgmmkhlhaa
